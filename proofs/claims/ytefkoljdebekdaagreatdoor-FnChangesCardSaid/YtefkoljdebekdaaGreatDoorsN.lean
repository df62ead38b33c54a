/- Joined: J17 V20 V15 K33 K13 K14 K15 K16 K17 K18 K19 K20 D1 E20 XF. Conditions: those of each lemma. -/
import Derived.Test.YtefkoljdebekdaaGreatDoorsM
import Derived.Test.YtefkoljdebekdaaGreatDoorsL
import Derived.Test.YtefkoljdebekdaaGreatDoorsI
import Derived.Test.YtefkoljdebekdaaGreatDoorsK
import GoSem.Step
import Derived.Calls
import Derived.Test.YtefkoljdebekdaaGreatDoorsG
import Derived.Test.YtefkoljdebekdaaGreatDoorsH
import Derived.Shelf.Strings.Builder1
import Derived.Shelf.Strings.Builder2
import Derived.Shelf.Strings.OnBuilder
import Derived.Shelf.Strings.Trim
import Derived.Shelf.Small.Utf8
import Derived.Shelf.Small.Bits
import Derived.Shelf.Small.Strs
import Derived.Shelf.Small.Wraps
import Derived.Shelf.Strings.BuilderF
import Derived.Shelf.Strings.BuilderK
import Derived.Shelf.Utf8.RuneCount
import Derived.Shelf.Strings.Builder2Cap
import Derived.Shelf.Strconv.Atoi
import Derived.Shelf.Strconv.Itoa0
import Derived.Shelf.Strconv.Itoa1
import Derived.Shelf.LaysM
import Derived.Shelf.Strconv.Itoa2
import Derived.Shelf.Strconv.Itoa3
import Derived.Shelf.Strconv.AtoiErrFast
import Derived.Shelf.Strconv.ParseIntEmpty
import Derived.Shelf.Strconv.AtoiFail
import Derived.Shelf.Strconv.Clone
import Derived.Shelf.Strconv.SyntaxError
import Derived.Shelf.LaysC
import Derived.Shelf.Strconv.ToError
import Derived.Shelf.Strconv.AtoiErr
import Derived.Shelf.Strconv.ErrVar
import Derived.Shelf.Strconv.Lower
import Derived.Shelf.Strconv.ParseUint10
import Derived.Shelf.Strconv.ParseUint10Empty
import Derived.Shelf.Strconv.ParseUint10Any
import Derived.Shelf.Strconv.ParseInt10
import Derived.Shelf.Strconv.AtoiLong
import Derived.Shelf.Strconv.AtoiInnerAll
import Derived.Shelf.Strconv.RangeError
import Derived.Shelf.Strconv.ToErrorRange
import Derived.Shelf.Strconv.AtoiAll
import Derived.Shelf.Strconv.ErrVarAll
import Derived.Shelf.Strconv.ParseUintEmpty
import Derived.Shelf.Strconv.ParseUint10b64
import Derived.Shelf.Strconv.ParseUint10b32
import Derived.Shelf.Strconv.ParseUint10b16
import Derived.Shelf.Strconv.ParseUint10b8
import Derived.Shelf.Strconv.ParseUint10At
import Derived.Shelf.Strconv.ParseInt10At64
import Derived.Shelf.Strconv.ParseInt10At32
import Derived.Shelf.Strconv.ParseInt10At16
import Derived.Shelf.Strconv.ParseInt10At8
import Derived.Shelf.Strconv.ParseInt10All
import Derived.Shelf.Strings.Search1
import Derived.Shelf.Strings.Search2
import Derived.Shelf.Strings.Search3
import Derived.Shelf.Strings.Cut
import Derived.Shelf.Strings.Count
import Derived.Shelf.Strings.Shaped
import Derived.Shelf.Sort.Plain
import Derived.Shelf.Strings.Prefix
import Derived.Shelf.Strings.Split
import Derived.Shelf.Strings.SplitShaped
import Derived.Shelf.Unicode.Decode
import Derived.Shelf.Strings.Runes
import Derived.Shelf.Strings.RuneCount
import Derived.Shelf.Strings.AsciiSet
import Derived.Shelf.Strings.Explode
import Derived.Shelf.Unicode.DecodeSlow
import Derived.Shelf.Unicode.DecodeAny
import Derived.Shelf.Strings.BuilderCap
import Derived.Shelf.Slices.Turned
import Derived.Shelf.Slices.Equal
import Derived.Ground.Names2Prog
import Derived.Shelf.Slices.Clone
import Derived.Shelf.Slices.CompactS
import Derived.Shelf.Slices.Cells
import Derived.Shelf.Slices.In.SortNone
import Derived.Shelf.Slices.Empties2
import Derived.Ground.SlgnProg
import Derived.Shelf.SlicesE.Clone
import Derived.Ground.SlsfProg
import Derived.Shelf.SlSortCmp.Insertion
import Derived.Shelf.SlSortCmp.SiftDown1
import Derived.Shelf.SlSortCmp.HeapSort1
import Derived.Shelf.SlSortCmp.Insertion1
import Derived.Shelf.SlSortCmp.Median1
import Derived.Shelf.SlSortCmp.Pivot1
import Derived.Shelf.SlSortCmp.ReverseRange1
import Derived.Shelf.SlSortCmp.PartialInsertion1
import Derived.Shelf.SlSortCmp.PartitionEqual1
import Derived.Shelf.SlSortCmp.Partition1
import Derived.Shelf.SlSortCmp.Pdq1
import Derived.Shelf.SlSortCmp.Whole1
import Derived.Shelf.SlSortCmp.NoneTotal
import Derived.Test.YtefkoljdebekdaaGreatDoorProg
set_option linter.unusedVariables false
set_option linter.unusedSimpArgs false
set_option maxRecDepth 100000
set_option maxHeartbeats 40000000
namespace Go.Proofs.YtefkoljdebekdaaGreatDoor
open Go.Proofs.Tryz
open E
theorem SB (bs:List Int)(hb:okB bs)(c:Cs)(hc:cok bs c):∃ (l:List zH) (c':Cs),sF 4 l∧cok bs c' ∧
 EV prog pol (.callO true 202 [.ptr 0 0 0] [cuR bs c])=some (.call (.t (.list 2 (zH.zq l))) [cuR bs c']):=by
 have s0:sF 0 []:=⟨Nat.le_refl _,fun s hs=>by simp at hs⟩;obtain⟨c1,o1,p1,h1,e1,g1⟩:=ve bs hb 0 _ 32 (by decide) (by decide) (show rH[0]? = some [104,49] from rfl) (by decide) (by decide) c hc [] (some 0) (by decide);have s1:=xR s0 e1;obtain⟨c2,o2,p2,h2,e2,g2⟩:=ve bs hb 1 _ 20 (by decide) (by decide) (show rH[1]? = some [115,104,97,49] from rfl) (by decide) (by decide) c1 h1 o1 p1 (by have:=s1.1;omega);have s2:=xR s1 e2;obtain⟨c3,o3,p3,h3,e3,g3⟩:=ve bs hb 2 _ 32 (by decide) (by decide) (show rH[2]? = some [115,104,97,50,53,54] from rfl) (by decide) (by decide) c2 h2 o2 p2 (by have:=s2.1;omega);have s3:=xR s2 e3;obtain⟨c4,o4,p4,h4,e4,g4⟩:=ve bs hb 3 _ 64 (by decide) (by decide) (show rH[3]? = some [115,104,97,53,49,50] from rfl) (by decide) (by decide) c3 h3 o3 p3 (by have:=s3.1;omega);have s4:=xR s3 e4;have L:=g1 _ (g2 _ (g3 _ (g4 _ (ia bs c4 o4 p4))));refine⟨o4,c4,s4,h4,?_⟩;have hT:(zH.zq o4).take o4.length=zH.zq o4:=List.take_of_length_le (by rw[zH.zz];exact Nat.le_refl _);simp only[List.length_nil,Int.natCast_zero,show zH.zq []=[] from rfl,show strs rH=[[.str [104,49]],[.str [115,104,97,49]],[.str [115,104,97,50,53,54]],[.str [115,104,97,53,49,50]]] from rfl]at L;clear g1 g2 g3 g4 e1 e2 e3 e4 s1 s2 s3 s4 s0 hb;unfold cuR at *;generalize zH.zq o4=E0 at *;refine zM func202 rfl (by kernel_rfl) ?_;unfold Tryz.f202;simp (disch:=(try simp only[LL]);omega) only[↓GO,↓DRW,GA,GX,ren,zj,za,refs,z7,cst,zm,isC,bin,una,z6,zd,blt,asArg,zg,zc,zf,z1,zn,unN,ze,zk,zb,GS,simprocAttr,GZ,L,hT,List.drop_zero,zA]
theorem eM (k:Nat)(l:List zH)(h:sF k l):l.length+zH.yp l≤73*k:=by
 have key:∀ l:List zH,(∀ s∈l,X7 s)→zH.yp l≤72*l.length:=fun l=>by
  induction l with
  | nil=>intro _;exact Nat.le_refl _
  | cons x r ih =>
   intro hx;have a:=ih fun s hs=>hx s (by simp[hs])
   obtain⟨b1,b2⟩:=hx x (by simp);rw[zH.yp,List.length_cons];unfold zH.y0;omega
 have:=key l h.2;have:=h.1;omega
def tj (b:Nat)(l:List z8):Prop:=∀ y∈l,y.y0≤b
theorem tj.le {a b:Nat}{l:List z8}(h:tj a l)(hab:a≤b):tj b l:=fun y hy=>Nat.le_trans (h y hy) hab
theorem tj.set {a b:Nat}{l:List z8}{i:Nat}{x:z8}(h:tj a l)(hab:a≤b)(hx:x.y0≤b):tj b (l.set i x):=fun y hy=>by
 rcases List.mem_or_eq_of_mem_set hy with hy|rfl
 · exact h.le hab y hy
 · exact hx
theorem Um (bs:List Int)(hb:okB bs)(tr:List (List T))(tn n:Nat)(hn:n≤7):∀ (m i:Nat) (c:Cs) (l:List z8),cok bs c→n=l.length→n=i+m→tj (65536+400*i) l→∃ (c':Cs) (l':List z8),cok bs c'∧n=l'.length∧tj 70000 l' ∧
 EV prog pol (.loop 153 58 1 [.ptr 0 0 0,.ptr 1 0 0,.ptr 2 0 0,.t (.int .i64 (i:Int))] [cuR bs c,.vs 2 [zG],.vs 2 [[.sl 3 0 tn none,.sl 4 0 n none]],.ts 1 tr,.ts 6 (z8.zq l)])
  = some (.loop (.exit 0) [.ptr 0 0 0,.ptr 1 0 0,.ptr 2 0 0] [cuR bs c',.vs 2 [zG],.vs 2 [[.sl 3 0 tn none,.sl 4 0 n none]],.ts 1 tr,.ts 6 (z8.zq l')])
 | 0,i,c,l,hc,hl,hi,hB=>by
  have c0:decide ((i:Int)<(n:Int))=false:=by apply decide_eq_false;omega
  refine⟨c,l,hc,hl,hB.le (by omega),?_⟩;simp only[zG];unfold cuR;clear hb hc hB;generalize z8.zq l=E0 at *;refine zh func153 rfl rfl ?_;simp (maxSteps:=1000000) (disch:=(try simp only[LL]);omega) only[↓GO,↓DRW,GA,GX,ren,zj,za,refs,z7,cst,zm,isC,bin,una,z6,zd,blt,asArg,zg,zc,zf,z1,zn,unN,ze,zk,zb,GS,simprocAttr,zD,zE,yG,yA,yD,yC,yH,gh1,yz,yr,yu,zR,mkO,yn,yf,yg,mvC,unO,zX,yF,yB,yw,zI,yx,yv,zY,oc,oTs,oT,zQ,zQ.rowTs,yt,isL,E.BX,GZ,c0,zA]
 | m + 1, i, c, l, hc, hl, hi, hB => by
  have c0:decide ((i:Int)<(n:Int))=true:=by apply decide_eq_true;omega
  have ci:decide ((0:Int)≤(i:Int))=true:=by apply decide_eq_true;omega
  have hi8:i<8:=by omega
  have hil:i<l.length:=by omega
  obtain⟨x,hx⟩:∃ x,l[i]? = some x:=⟨_,List.getElem?_eq_getElem hil⟩;have hxb:=hB x (List.mem_of_getElem? hx);have hget:(z8.zq l)[i]? = some x.enc:=by unfold z8.zq;rw[List.getElem?_map,hx];rfl
  have hel:=z8.zz l;rw[← hl]at hel;obtain⟨k,c1,hk,hc1,d1⟩:=qu bs hb c hc 6 (by decide) (by decide);simp only[Int.cast_ofNat_Int]at d1;have main:∀ (l2:List z8) (cn:Cs),cok bs cn→n=l2.length→tj (65536+400*(i+1)) l2→(∀ R,EV prog pol (.loop 153 58 1 [.ptr 0 0 0,.ptr 1 0 0,.ptr 2 0 0,.t (.int .i64 ((i:Int)+1))] [cuR bs cn,.vs 2 [zG],.vs 2 [[.sl 3 0 tn none,.sl 4 0 n none]],.ts 1 tr,.ts 6 (z8.zq l2)])=some R →
   EV prog pol (.loop 153 58 1 [.ptr 0 0 0,.ptr 1 0 0,.ptr 2 0 0,.t (.int .i64 (i:Int))] [cuR bs c,.vs 2 [zG],.vs 2 [[.sl 3 0 tn none,.sl 4 0 n none]],.ts 1 tr,.ts 6 (z8.zq l)])=some R)→∃ (c':Cs) (l':List z8),cok bs c'∧n=l'.length∧tj 70000 l' ∧
   EV prog pol (.loop 153 58 1 [.ptr 0 0 0,.ptr 1 0 0,.ptr 2 0 0,.t (.int .i64 (i:Int))] [cuR bs c,.vs 2 [zG],.vs 2 [[.sl 3 0 tn none,.sl 4 0 n none]],.ts 1 tr,.ts 6 (z8.zq l)])
    = some (.loop (.exit 0) [.ptr 0 0 0,.ptr 1 0 0,.ptr 2 0 0] [cuR bs c',.vs 2 [zG],.vs 2 [[.sl 3 0 tn none,.sl 4 0 n none]],.ts 1 tr,.ts 6 (z8.zq l')]):=fun l2 cn h1 h2 h3 hR=>by
   obtain⟨c',l',q0,q1,q2,IH⟩:=Um bs hb tr tn n hn m (i+1) cn l2 h1 h2 (by omega) h3;rw[show ((i+1:Nat):Int)=(i:Int)+1 by omega]at IH;exact⟨c',l',q0,q1,q2,hR _ IH⟩
  by_cases k0:k=0
  · subst k0;obtain⟨s,c2,hs,hc2,d2⟩:=uP bs hb c1 hc1 [[],[110,101,119],[46]] 3 rfl (by decide) (by decide) (some 3);have hsl:s.length≤3:=by
     simp only[List.mem_cons,List.not_mem_nil,or_false]at hs;rcases hs with rfl|rfl|rfl<;>decide
    simp only[strs,List.map_cons,List.map_nil]at d2;refine main (l.set i ⟨x.name,x.version,s,x.sums,x.dev,x.zB⟩) c2 hc2 (by simpa using hl) (hB.set (by omega) (by simp only[z8.y0]at hxb ⊢;omega)) fun R e=>?_
    rw[oB]at e;obtain⟨name,version,source,sums,dev,zB⟩:=x;simp only[z8.enc,zG]at hget e ⊢;clear main hb hB hx hs;unfold cuR at *;generalize z8.zq l=E0 at *;refine zh func153 rfl rfl ?_;simp (maxSteps:=1000000) (disch:=(try simp only[LL]);omega) only[↓GO,↓DRW,GA,GX,ren,zj,za,refs,z7,cst,zm,isC,bin,una,z6,zd,blt,asArg,zg,zc,zf,z1,zn,unN,ze,zk,zb,GS,simprocAttr,zD,zE,yG,yA,yD,yC,yH,gh1,yz,yr,yu,zR,mkO,yn,yf,yg,mvC,unO,zX,yF,yB,yw,zI,yx,yv,zY,oc,oTs,oT,zQ,zQ.rowTs,yt,isL,E.BX,GZ,c0,ci,d1,d2,hget,hel,zi,zA,e]
    all_goals (repeat (refine zT (by kernel_rfl) ?_))
    all_goals (first|rfl|exact e|(simp (maxSteps:=1000000) (disch:=(try simp only[LL]);omega) only[↓GO,↓DRW,GA,GX,ren,zj,za,refs,z7,cst,zm,isC,bin,una,z6,zd,blt,asArg,zg,zc,zf,z1,zn,unN,ze,zk,zb,GS,simprocAttr,zD,zE,yG,yA,yD,yC,yH,gh1,yz,yr,yu,zR,mkO,yn,yf,yg,mvC,unO,zX,yF,yB,yw,zI,yx,yv,zY,oc,oTs,oT,zQ,zQ.rowTs,yt,isL,E.BX,GZ,c0,ci,d1,d2,hget,hel,zi,zA,e]))
  by_cases k1:k=1
  · subst k1;refine main (l.set i ⟨x.name,x.version,x.source,x.sums,!x.dev,x.zB⟩) c1 hc1 (by simpa using hl) (hB.set (by omega) (by simp only[z8.y0]at hxb ⊢;omega)) fun R e=>?_
    rw[oB]at e;obtain⟨name,version,source,sums,dev,zB⟩:=x;simp only[z8.enc,zG]at hget e ⊢;clear main hb hB hx;unfold cuR at *;generalize z8.zq l=E0 at *;refine zh func153 rfl rfl ?_;simp (maxSteps:=1000000) (disch:=(try simp only[LL]);omega) only[↓GO,↓DRW,GA,GX,ren,zj,za,refs,z7,cst,zm,isC,bin,una,z6,zd,blt,asArg,zg,zc,zf,z1,zn,unN,ze,zk,zb,GS,simprocAttr,zD,zE,yG,yA,yD,yC,yH,gh1,yz,yr,yu,zR,mkO,yn,yf,yg,mvC,unO,zX,yF,yB,yw,zI,yx,yv,zY,oc,oTs,oT,zQ,zQ.rowTs,yt,isL,E.BX,GZ,c0,ci,d1,hget,hel,zi,zA,e]
    all_goals (repeat (refine zT (by kernel_rfl) ?_))
    all_goals (first|rfl|exact e|(simp (maxSteps:=1000000) (disch:=(try simp only[LL]);omega) only[↓GO,↓DRW,GA,GX,ren,zj,za,refs,z7,cst,zm,isC,bin,una,z6,zd,blt,asArg,zg,zc,zf,z1,zn,unN,ze,zk,zb,GS,simprocAttr,zD,zE,yG,yA,yD,yC,yH,gh1,yz,yr,yu,zR,mkO,yn,yf,yg,mvC,unO,zX,yF,yB,yw,zI,yx,yv,zY,oc,oTs,oT,zQ,zQ.rowTs,yt,isL,E.BX,GZ,c0,ci,d1,hget,hel,zi,zA,e]))
  by_cases k2:k=2
  · subst k2;obtain⟨sm,c2,hs,hc2,d2⟩:=SB bs hb c1 hc1;have hsb:=eM 4 sm hs;refine main (l.set i ⟨x.name,x.version,x.source,sm,x.dev,x.zB⟩) c2 hc2 (by simpa using hl) (hB.set (by omega) (by simp only[z8.y0]at hxb ⊢;omega)) fun R e=>?_
    rw[oB]at e;obtain⟨name,version,source,sums,dev,zB⟩:=x;simp only[z8.enc,zG]at hget e ⊢;clear main hb hB hx hs;unfold cuR at *;generalize z8.zq l=E0 at *;generalize zH.zq sm=E1 at *;refine zh func153 rfl rfl ?_;simp (maxSteps:=1000000) (disch:=(try simp only[LL]);omega) only[↓GO,↓DRW,GA,GX,ren,zj,za,refs,z7,cst,zm,isC,bin,una,z6,zd,blt,asArg,zg,zc,zf,z1,zn,unN,ze,zk,zb,GS,simprocAttr,zD,zE,yG,yA,yD,yC,yH,gh1,yz,yr,yu,zR,mkO,yn,yf,yg,mvC,unO,zX,yF,yB,yw,zI,yx,yv,zY,oc,oTs,oT,zQ,zQ.rowTs,yt,isL,E.BX,GZ,c0,ci,d1,d2,hget,hel,zi,zA,e]
    all_goals (repeat (refine zT (by kernel_rfl) ?_))
    all_goals (first|rfl|exact e|(simp (maxSteps:=1000000) (disch:=(try simp only[LL]);omega) only[↓GO,↓DRW,GA,GX,ren,zj,za,refs,z7,cst,zm,isC,bin,una,z6,zd,blt,asArg,zg,zc,zf,z1,zn,unN,ze,zk,zb,GS,simprocAttr,zD,zE,yG,yA,yD,yC,yH,gh1,yz,yr,yu,zR,mkO,yn,yf,yg,mvC,unO,zX,yF,yB,yw,zI,yx,yv,zY,oc,oTs,oT,zQ,zQ.rowTs,yt,isL,E.BX,GZ,c0,ci,d1,d2,hget,hel,zi,zA,e]))
  have q0:((k:Int)==0)=false:=by rw[beq_eq_false_iff_ne];omega
  have q1:((k:Int)==1)=false:=by rw[beq_eq_false_iff_ne];omega
  have q2:((k:Int)==2)=false:=by rw[beq_eq_false_iff_ne];omega
  refine main l c1 hc1 hl (hB.le (by omega)) fun R e=>?_
  simp only[zG]at e ⊢;clear main hb hB hx;unfold cuR at *;generalize z8.zq l=E0 at *;refine zh func153 rfl rfl ?_;simp (maxSteps:=1000000) (disch:=(try simp only[LL]);omega) only[↓GO,↓DRW,GA,GX,ren,zj,za,refs,z7,cst,zm,isC,bin,una,z6,zd,blt,asArg,zg,zc,zf,z1,zn,unN,ze,zk,zb,GS,simprocAttr,zD,zE,yG,yA,yD,yC,yH,gh1,yz,yr,yu,zR,mkO,yn,yf,yg,mvC,unO,zX,yF,yB,yw,zI,yx,yv,zY,oc,oTs,oT,zQ,zQ.rowTs,yt,isL,E.BX,GZ,c0,d1,q0,q1,q2,zi,zA,e]
theorem Y5 (bs:List Int)(c:Cs)(tr:List (List T))(tn n:Nat)(hn:n≤7)(l:List z8)(hl:n=l.length)(hB:tj 70000 l):∀ (m i:Nat) (ks:List Str) (cap:Option Nat),n=i+m→ks.length≤i→∃ (ks':List Str) (cap':Option Nat),ks'.length≤n ∧
 EV prog pol (.loop 153 1962 1 [.ptr 1 0 0,.ptr 2 0 0,.sl 3 0 ks.length cap,.t (.int .i64 (i:Int))] [cuR bs c,.vs 2 [zG],.vs 2 [[.sl 4 0 tn none,.sl 5 0 n none]],.ts 1 (strs ks),.ts 1 tr,.ts 6 (z8.zq l)])
  = some (.loop (.exit 3) [.ptr 1 0 0,.ptr 2 0 0,.sl 3 0 ks'.length cap'] [cuR bs c,.vs 2 [zG],.vs 2 [[.sl 4 0 tn none,.sl 5 0 n none]],.ts 1 (strs ks'),.ts 1 tr,.ts 6 (z8.zq l)])
 | 0,i,ks,cap,hi,hk=>by
  have c0:decide ((i:Int)<(n:Int))=false:=by apply decide_eq_false;omega
  refine⟨ks,cap,by omega,?_⟩;simp only[zG];unfold cuR;clear hB;generalize z8.zq l=E0 at *;generalize strs ks=E1 at *;refine zh func153 rfl rfl ?_;simp (maxSteps:=1000000) (disch:=(try simp only[LL]);omega) only[↓GO,↓DRW,GA,GX,ren,zj,za,refs,z7,cst,zm,isC,bin,una,z6,zd,blt,asArg,zg,zc,zf,z1,zn,unN,ze,zk,zb,GS,simprocAttr,zD,zE,yG,yA,yD,yC,yH,gh1,yz,yr,yu,zR,mkO,yn,yf,yg,mvC,unO,zX,yF,yB,yw,zI,yx,yv,zY,oc,oTs,oT,zQ,zQ.rowTs,yt,isL,E.BX,GZ,c0,zA]
 | m+1,i,ks,cap,hi,hk=>by
  have c0:decide ((i:Int)<(n:Int))=true:=by apply decide_eq_true;omega
  have ci:decide ((0:Int)≤(i:Int))=true:=by apply decide_eq_true;omega
  have hi8:i<8:=by omega
  have hil:i<l.length:=by omega
  obtain⟨x,hx⟩:∃ x,l[i]? = some x:=⟨_,List.getElem?_eq_getElem hil⟩;have hxb:=hB x (List.mem_of_getElem? hx);have hget:(z8.zq l)[i]? = some x.enc:=by unfold z8.zq;rw[List.getElem?_map,hx];rfl
  have d1:=uQ x (by omega);have hT:=zo ks;have hk8:ks.length<8:=by omega
  obtain⟨ks',cap',q1,IH⟩:=Y5 bs c tr tn n hn l hl hB m (i+1) (ks++[keyOf x]) none (by omega) (by simp;omega);rw[show ((i+1:Nat):Int)=(i:Int)+1 by omega,show strs (ks++[keyOf x])=strs ks++[[.str (keyOf x)]] by simp[strs],List.length_append,List.length_singleton]at IH;have hel:=z8.zz l;rw[← hl]at hel;refine⟨ks',cap',q1,?_⟩;generalize keyOf x=kx at *;obtain⟨name,version,source,sums,dev,zB⟩:=x;simp only[z8.enc,List.map_cons,List.map_nil,zG]at hget d1 IH ⊢;clear hB hx;unfold cuR at *;generalize z8.zq l=E0 at *;generalize strs ks=E1 at *;refine zh func153 rfl rfl ?_;simp (maxSteps:=1000000) (disch:=(try simp only[LL]);omega) only[↓GO,↓DRW,GA,GX,ren,zj,za,refs,z7,cst,zm,isC,bin,una,z6,zd,blt,asArg,zg,zc,zf,z1,zn,unN,ze,zk,zb,GS,simprocAttr,zD,zE,yG,yA,yD,yC,yH,gh1,yz,yr,yu,zR,mkO,yn,yf,yg,mvC,unO,zX,yF,yB,yw,zI,yx,yv,zY,oc,oTs,oT,zQ,zQ.rowTs,yt,isL,E.BX,GZ,c0,ci,d1,hget,hel,hT,zi,y6,zA,IH]
theorem aq (keys:List Str)(l:List z8)(n:Nat)(h:tj n l):tj n (xY keys l):=fun y hy=>by
 obtain⟨p,hp,rfl⟩:=List.mem_map.1 hy;have h1:=h p (List.mem_filter.1 hp).1;have h2:∀ ks:List Str,(ks.filter (yV keys)).length+yc (ks.filter (yV keys))≤ks.length+yc ks:=fun ks=>by
  induction ks with
  | nil=>simp
  | cons k r ih =>
   rw[List.filter_cons]
   cases yV keys k with
   | true=>simp only[if_true,List.length_cons,yc];omega
   | false=>simp only[Bool.false_eq_true,if_false,List.length_cons,yc];omega
 have h3:=h2 p.zB;unfold mV;simp only[z8.y0]at h1 ⊢;omega
theorem X5 (top:List Str)(l:List z8)(hl:l.length≤7)(hB:tj 70000 l)(ht:top.length+yc top≤65536):GB ⟨top,l⟩:=by
 have e1:=rP 70000 l hB;unfold GB zy.y0;simp only;omega
theorem cd (keys:List Str):∀ ks:List Str,(ks.filter (yV keys)).length+yc (ks.filter (yV keys))≤ks.length+yc ks
 | []=>by simp
 | k::r=>by
  have ih:=cd keys r;rw[List.filter_cons]
  cases yV keys k with
  | true=>simp only[if_true,List.length_cons,yc];omega
  | false=>simp only[Bool.false_eq_true,if_false,List.length_cons,yc];omega
theorem Vj (bs:List Int)(hb:okB bs)(c:Cs)(hc:cok bs c)(g:zy)(hg:GSm g):∃ (h:zy) (c':Cs),GB h∧cok bs c' ∧
 EV prog pol (.callO true 153 [.ptr 0 0 0,.agg (g.enc.map .t)] [cuR bs c])=some (.call (.agg (h.enc.map .t)) [cuR bs c']):=by
 obtain⟨top,cs⟩:=g;obtain⟨hl,hbk⟩:=hg;unfold zy.y0 at hbk;simp only at hl hbk;have hcb:∀ p∈cs,p.y0≤65536:=fun p hp=>by have:=z8.yK hp;omega
 have hT:=zo top;have hT2:(strs top).take top.length=strs top:=List.take_of_length_le (by omega)
 cases cs with
 | nil =>
  have d0:=aL top (by omega);refine⟨⟨top,[]⟩,c,X5 top [] (by simp) (fun y hy=>by simp at hy) (by omega),hc,?_⟩;have L:EV prog pol (.loop 153 58 1 [.ptr 0 0 0,.ptr 1 0 0,.ptr 2 0 0,.t (.int .i64 0)] [cuR bs c,.vs 2 [zG],.vs 2 [[.sl 3 0 top.length none,.nil 6]],.ts 1 (strs top)])
   = some (.loop (.exit 0) [.ptr 0 0 0,.ptr 1 0 0,.ptr 2 0 0] [cuR bs c,.vs 2 [zG],.vs 2 [[.sl 3 0 top.length none,.nil 6]],.ts 1 (strs top)]):=by
   simp only[zG];unfold cuR;clear hb hc;generalize strs top=E0 at *;refine zh func153 rfl rfl ?_;simp (maxSteps:=1000000) (disch:=(try simp only[LL]);omega) only[↓GO,↓DRW,GA,GX,ren,zj,za,refs,z7,cst,zm,isC,bin,una,z6,zd,blt,asArg,zg,zc,zf,z1,zn,unN,ze,zk,zb,GS,simprocAttr,zD,zE,yG,yA,yD,yC,yH,gh1,yz,yr,yu,zR,mkO,yn,yf,yg,mvC,unO,zX,yF,yB,yw,zI,yx,yv,zY,oc,oTs,oT,zQ,zQ.rowTs,yt,isL,E.BX,GZ,zA]
  simp only[zG,zy.enc,List.map_cons,List.map_nil,show z8.zq []=[] from rfl]at L d0 ⊢;unfold cuR at *;clear hb hc hcb;generalize strs top=E0 at *;refine zM func153 rfl (by kernel_rfl) ?_;unfold Tryz.f153;simp (maxSteps:=1000000) (disch:=(try simp only[LL]);omega) only[↓GO,↓DRW,GA,GX,ren,zj,za,refs,z7,cst,zm,isC,bin,una,z6,zd,blt,asArg,zg,zc,zf,z1,zn,unN,ze,zk,zb,GS,simprocAttr,zD,zE,yG,yA,yD,yC,yH,gh1,yz,yr,yu,zR,mkO,yn,yf,yg,mvC,unO,zX,yF,yB,yw,zI,yx,yv,zY,oc,oTs,oT,zQ,zQ.rowTs,yt,isL,E.BX,GZ,d0,L,hT2,List.drop_zero,zA]
 | cons x rest =>
  have d0:=di top x rest (by omega) (by omega) (fun p hp=>by have:=hcb p hp;omega);generalize hcs:x::rest=cs at *;obtain⟨c1,l,hc1,hl1,hB1,L⟩:=Um bs hb (strs top) top.length cs.length hl cs.length 0 c cs hc rfl (by omega) (fun y hy=>by have:=hcb y hy;omega);simp only[Int.natCast_zero]at L;have hE:=z8.zz l;have hE2:(z8.zq l).take cs.length=z8.zq l:=List.take_of_length_le (by omega);have plain:∀ c2,cok bs c2→(decide ((cs.length:Int) > 1)=false∧c2=c1∨decide ((cs.length:Int) > 1)=true∧EV prog pol (.callO false 131 [.ptr 0 0 0,.t (.int .i64 3)] [cuR bs c1])=some (.call (.t (.bool false)) [cuR bs c2]))→∃ (h:zy) (c':Cs),GB h∧cok bs c' ∧
   EV prog pol (.callO true 153 [.ptr 0 0 0,.agg ((zy.mk top cs).enc.map .t)] [cuR bs c])=some (.call (.agg (h.enc.map .t)) [cuR bs c']):=fun c2 hc2 hq=>by
   refine⟨⟨top,l⟩,c2,X5 top l (by omega) hB1 (by omega),hc2,?_⟩;simp only[zG,zy.enc,List.map_cons,List.map_nil]at L d0 ⊢;unfold cuR at *;clear hb hc hcb hB1 hbk hcs;generalize z8.zq cs=E2 at *;generalize z8.zq l=E1 at *;generalize strs top=E0 at *;rcases hq with⟨q,rfl⟩|⟨q,d1⟩
   · refine zM func153 rfl (by kernel_rfl) ?_;unfold Tryz.f153;simp (maxSteps:=1000000) (disch:=(try simp only[LL]);omega) only[↓GO,↓DRW,GA,GX,ren,zj,za,refs,z7,cst,zm,isC,bin,una,z6,zd,blt,asArg,zg,zc,zf,z1,zn,unN,ze,zk,zb,GS,simprocAttr,zD,zE,yG,yA,yD,yC,yH,gh1,yz,yr,yu,zR,mkO,yn,yf,yg,mvC,unO,zX,yF,yB,yw,zI,yx,yv,zY,oc,oTs,oT,zQ,zQ.rowTs,yt,isL,E.BX,GZ,d0,L,q,hT2,hE2,List.drop_zero,zA]
   · refine zM func153 rfl (by kernel_rfl) ?_;unfold Tryz.f153;simp (maxSteps:=1000000) (disch:=(try simp only[LL]);omega) only[↓GO,↓DRW,GA,GX,ren,zj,za,refs,z7,cst,zm,isC,bin,una,z6,zd,blt,asArg,zg,zc,zf,z1,zn,unN,ze,zk,zb,GS,simprocAttr,zD,zE,yG,yA,yD,yC,yH,gh1,yz,yr,yu,zR,mkO,yn,yf,yg,mvC,unO,zX,yF,yB,yw,zI,yx,yv,zY,oc,oTs,oT,zQ,zQ.rowTs,yt,isL,E.BX,GZ,d0,d1,L,q,hT2,hE2,List.drop_zero,zA]
  cases q:decide ((cs.length:Int) > 1) with
  | false=>exact plain c1 hc1 (.inl ⟨q,rfl⟩)
  | true =>
   obtain⟨b,c2,hc2,d1⟩:=vR bs hb c1 hc1 3 (by decide) (by decide);simp only[Int.cast_ofNat_Int]at d1
   cases b with
   | false=>exact plain c2 hc2 (.inr ⟨q,d1⟩)
   | true =>
    have hq:=of_decide_eq_true q;obtain⟨ks,cap,hk,L2⟩:=Y5 bs c2 (strs top) top.length cs.length hl l hl1 hB1 (cs.length - 1) 1 [] (some 0) (by omega) (by simp);have d2:=c_onR ⟨top,l⟩ (X5 top l (by omega) hB1 (by omega)) ks (by omega);have hK:=zo ks;have hK2:(strs ks).take ks.length=strs ks:=List.take_of_length_le (by omega);have hot:=cd ks top;refine⟨bS ⟨top,l⟩ ks,c2,?_,hc2,?_⟩
    · unfold bS;refine X5 _ _ ?_ (aq ks l 70000 hB1) (by simp only;omega);unfold xY;rw[List.length_map];exact Nat.le_trans (List.length_filter_le _ _) (by simp only;omega)
    · generalize bS ⟨top,l⟩ ks=o at *;obtain⟨top2,ps2⟩:=o;simp only[zG,zy.enc,List.map_cons,List.map_nil,List.length_nil,Int.natCast_one,show strs []=[] from rfl]at L L2 d0 d2 ⊢;unfold cuR at *;clear plain hb hc hcb hB1 hbk hcs hot;generalize z8.zq cs=E2 at *;generalize z8.zq l=E1 at *;generalize strs top=E0 at *;generalize strs ks=E3 at *;refine zM func153 rfl (by kernel_rfl) ?_;unfold Tryz.f153;simp (maxSteps:=1000000) (disch:=(try simp only[LL]);omega) only[↓GO,↓DRW,GA,GX,ren,zj,za,refs,z7,cst,zm,isC,bin,una,z6,zd,blt,asArg,zg,zc,zf,z1,zn,unN,ze,zk,zb,GS,simprocAttr,zD,zE,yG,yA,yD,yC,yH,gh1,yz,yr,yu,zR,mkO,yn,yf,yg,mvC,unO,zX,yF,yB,yw,zI,yx,yv,zY,oc,oTs,oT,zQ,zQ.rowTs,yt,isL,E.BX,GZ,d0,d1,d2,L,L2,q,hT2,hE2,hK2,List.drop_zero,zA]
theorem Vp (code:List Int)(hb:okB code):∃ g h:zy,GSm g∧GB h∧zr (EV prog pol) 86 [.t (.list 1 (xl code))]=some (.tup [.agg (g.enc.map .t),.agg (h.enc.map .t)]):=by
 obtain⟨h0,d0⟩:=RQ code hb;obtain⟨c1,g,hc1,hg,d1⟩:=RX code hb (0,h0) (Nat.zero_le _);obtain⟨b,c2,hc2,d2⟩:=vR code hb c1 hc1 3 (by decide) (by decide);simp only[Int.cast_ofNat_Int]at d2
 cases b with
 | true =>
  obtain⟨h,c3,hh,hc3,d3⟩:=Vj code hb c2 hc2 g hg;refine⟨g,h,hg,hh,?_⟩;simp only[zy.enc,List.map_cons,List.map_nil]at d1 d3 ⊢;unfold cuR at *;simp only[Int.natCast_zero]at d0 d1;clear hb hg hh;apply zu;refine zx rfl func86 rfl (by kernel_rfl) ?_;unfold Tryz.f86;simp (maxSteps:=1000000) (disch:=(try simp only[LL]);omega) only[↓GO,↓DRW,GA,GX,ren,zj,za,refs,z7,cst,zm,isC,bin,una,z6,zd,blt,asArg,zg,zc,zf,z1,zn,unN,ze,zk,zb,GS,simprocAttr,zD,zE,yG,yA,yD,yC,yH,gh1,yz,yr,yu,zR,mkO,yn,yf,yg,mvC,unO,zX,yF,yB,yw,zI,yx,yv,zY,oc,oTs,oT,zQ,zQ.rowTs,yt,isL,E.BX,GZ,d0,d1,d2,d3,zA]
  all_goals (repeat (refine zT (by kernel_rfl) ?_))
  all_goals (first|rfl|(simp (maxSteps:=1000000) (disch:=(try simp only[LL]);omega) only[↓GO,↓DRW,GA,GX,ren,zj,za,refs,z7,cst,zm,isC,bin,una,z6,zd,blt,asArg,zg,zc,zf,z1,zn,unN,ze,zk,zb,GS,simprocAttr,zD,zE,yG,yA,yD,yC,yH,gh1,yz,yr,yu,zR,mkO,yn,yf,yg,mvC,unO,zX,yF,yB,yw,zI,yx,yv,zY,oc,oTs,oT,zQ,zQ.rowTs,yt,isL,E.BX,GZ,d0,d1,d2,d3,zA]))
 | false =>
  obtain⟨c3,h,hc3,hh,d3⟩:=RX code hb c2 hc2;refine⟨g,h,hg,by have:=hh.2;unfold GB;omega,?_⟩;simp only[zy.enc,List.map_cons,List.map_nil]at d1 d3 ⊢;unfold cuR at *;simp only[Int.natCast_zero]at d0 d1;clear hb hg hh;apply zu;refine zx rfl func86 rfl (by kernel_rfl) ?_;unfold Tryz.f86;simp (maxSteps:=1000000) (disch:=(try simp only[LL]);omega) only[↓GO,↓DRW,GA,GX,ren,zj,za,refs,z7,cst,zm,isC,bin,una,z6,zd,blt,asArg,zg,zc,zf,z1,zn,unN,ze,zk,zb,GS,simprocAttr,zD,zE,yG,yA,yD,yC,yH,gh1,yz,yr,yu,zR,mkO,yn,yf,yg,mvC,unO,zX,yF,yB,yw,zI,yx,yv,zY,oc,oTs,oT,zQ,zQ.rowTs,yt,isL,E.BX,GZ,d0,d1,d2,d3,zA]
  all_goals (repeat (refine zT (by kernel_rfl) ?_))
  all_goals (first|rfl|(simp (maxSteps:=1000000) (disch:=(try simp only[LL]);omega) only[↓GO,↓DRW,GA,GX,ren,zj,za,refs,z7,cst,zm,isC,bin,una,z6,zd,blt,asArg,zg,zc,zf,z1,zn,unN,ze,zk,zb,GS,simprocAttr,zD,zE,yG,yA,yD,yC,yH,gh1,yz,yr,yu,zR,mkO,yn,yf,yg,mvC,unO,zX,yF,yB,yw,zI,yx,yv,zY,oc,oTs,oT,zQ,zQ.rowTs,yt,isL,E.BX,GZ,d0,d1,d2,d3,zA]))
theorem Vq (code:List Int)(hb:okB code):∃ g h:zy,GSm g∧GB h∧zr (EV prog pol) 23 [.t (.list 1 (xl code))]=some (.tup [.agg (g.enc.map .t),.agg (h.enc.map .t)]):=by
 obtain⟨g,h,hg,hh,d⟩:=Vp code hb;refine⟨g,h,hg,hh,?_⟩;simp only[zy.enc,List.map_cons,List.map_nil]at d ⊢;apply zu;refine zx rfl func23 rfl (by kernel_rfl) ?_;unfold Tryz.f23;simp (disch:=(try simp only[LL]);omega) only[↓GO,↓DRW,GA,GX,ren,zj,za,refs,z7,cst,zm,isC,bin,una,z6,zd,blt,asArg,zg,zc,zf,z1,zn,unN,ze,zk,zb,GS,simprocAttr,GZ,d,zA]
theorem Vr (code:List Int)(hb:okB code):∃ c:zw,c.y0≤4096∧zr (EV prog pol) 26 [.t (.list 1 (xl code))]=some (.agg (c.enc.map .t)):=by
 obtain⟨h,d0⟩:=RQ code hb;obtain⟨k,c1,hk,hc1,d1⟩:=qu code hb (0,h) (Nat.zero_le _) 7 (by decide) (by decide);obtain⟨nm,c2,hn,hc2,d2⟩:=UJ code hb c1 hc1;obtain⟨v,c3,hv,hc3,d3⟩:=fW code hb c2 hc2;obtain⟨w,c4,hw,hc4,d4⟩:=fW code hb c3 hc3;simp only[Int.cast_ofNat_Int]at d1;refine⟨⟨(k:Int) - 1,nm,v,w⟩,by unfold zw.y0;simp only;omega,?_⟩;simp only[zw.enc,List.map_cons,List.map_nil];unfold cuR at *;simp only[Int.natCast_zero]at d0 d1;clear hb;apply zu;refine zx rfl func26 rfl (by kernel_rfl) ?_;unfold Tryz.f26;simp (maxSteps:=1000000) (disch:=(try simp only[LL]);omega) only[↓GO,↓DRW,GA,GX,ren,zj,za,refs,z7,cst,zm,isC,bin,una,z6,zd,blt,asArg,zg,zc,zf,z1,zn,unN,ze,zk,zb,GS,simprocAttr,zD,zE,yG,yA,yD,yC,yH,gh1,yz,yr,yu,zR,mkO,yn,yf,yg,mvC,unO,zX,yF,yB,yw,zI,yx,yv,zY,oc,oTs,oT,zQ,zQ.rowTs,yt,isL,E.BX,GZ,d0,d1,d2,d3,d4,zi,zA]
def qm (l:List z8):List Str:=l.map keyOf
theorem vI (l:List z8)(k:Str):k∈qm l↔∃ p∈l,keyOf p=k:=by simp[qm]
theorem iN {l:List z8}:kK l↔qQ (qm l):=by
 unfold kK qQ qm;rw[List.pairwise_map]
theorem nD (ps:List z8)(k:Str):pB ps k=true↔k∈qm ps:=by
 unfold pB qm;rw[List.any_eq_true];simp
theorem kK.uniq {a b:List z8}(h1:kK a)(h2:kK b)(hk:qm a=qm b)(h:∀ p∈a,p∈b):a=b:=by
 induction a generalizing b with
 | nil=>cases b with
  | nil=>rfl
  | cons y s=>cases hk
 | cons x r ih => cases b with
  | nil=>cases hk
  | cons y s =>
   injection hk with e1 e2;obtain⟨p1,p2⟩:=List.pairwise_cons.1 h1;obtain⟨q1,q2⟩:=List.pairwise_cons.1 h2;have hxy:x=y:=kK.key h2 x (h x (by simp)) y (by simp) e1;subst hxy;rw[ih p2 q2 e2 fun p hp=>?_];rcases List.mem_cons.1 (h p (by simp[hp])) with rfl|hm
   · have:=p1 p hp;rw[wI]at this;cases this
   · exact hm
def qt:Option Str→List Str→List Str
 | _,[]=>[]
 | p,x::r=>if p=some x then qt (some x) r else x::qt (some x) r
theorem kF:∀ (l:List Str) (p:Option Str) (y:Str),qt p (l++[y])=qt p l++if (match l.getLast? with|some z=>some z|none=>p)=some y then [] else [y]
 | [],p,y=>by
  show (if p=some y then [] else [y])=[]++(if p=some y then [] else [y])
  rfl
 | x :: r, p, y => by
  have ih:=kF r (some x) y;have e:(match (x::r).getLast? with|some z=>some z|none=>p)=(match r.getLast? with|some z=>some z|none=>some x):=by
   cases r with
   | nil=>rfl
   | cons z r =>
    rw[List.getLast?_cons_cons]
    cases h:(z::r).getLast? with
    | some w=>rfl
    | none=>simp at h
  rw[List.cons_append,qt,qt,ih,e]
  split
  · rfl
  · rfl
theorem gz (zs:List Str):∀ m,m≤zs.length→Lib.compactUpTo zs.toArray m=qt none (zs.take m)
 | 0,_=>by simp[Lib.compactUpTo,qt]
 | m + 1, h => by
  rw[Lib.compactUpTo_succ,gz zs m (by omega)];have hm:m<zs.length:=by omega
  have e:zs.take (m+1)=zs.take m++[zs[m]]:=by rw[List.take_succ_eq_append_getElem hm]
  rw[e,kF]
  congr 1
  have e2:zs.toArray[m]! = zs[m]:=by simp[hm]
  rw[e2]
  cases m with
  | zero=>simp[Lib.keeps]
  | succ k =>
   have e3:(zs.take (k+1)).getLast? = some zs[k]:=by
    rw[List.take_succ_eq_append_getElem (show k<zs.length by omega)];exact List.getLast?_concat
   have e4:zs.toArray[k+1 - 1]! = zs[k]:=by simp[show k<zs.length by omega]
   rw[e3];unfold Lib.keeps;rw[e2,e4]
   by_cases hx:zs[k]=zs[k+1]
   · simp[hx]
   · have hx':zs[k+1]≠zs[k]:=fun e=>hx e.symm
     simp[hx,hx']
theorem YN:∀ (x:Str) (r:List Str),u9 (x::r)=x::qt (some x) r
 | x,[]=>rfl
 | x, y :: r => by
  rw[u9,YN y r,qt]
  cases h:(x==y) with
  | true =>
   have:x=y:=by simpa using h
   subst this;simp
  | false =>
   have:¬ (some x=some y):=by simpa using h
   rw[if_neg this];rfl
theorem gy (zs:List Str):Lib.compact zs=u9 zs:=by
 unfold Lib.compact;rw[gz zs zs.length (Nat.le_refl _),List.take_length]
 cases zs with
 | nil=>rfl
 | cons x r=>rw[YN,qt];simp
theorem Vs (a b:List z8)(ha:a.length≤1048576)(hb:b.length≤1048576):zr (EV prog pol) 154 [.t (.list 1 [[.list 6 (z8.zq a)],[.list 6 (z8.zq b)]])]=some (.t (.list 6 (z8.zq (a++b)))):=by
 have d1:=QG (a.length+b.length) (by omega);have w1:IntKind.i64.wrap ((a.length:Int)+(b.length:Int))=((a.length+b.length:Nat):Int):=by rw[zi (by omega)];omega
 have w0:IntKind.i64.wrap (0+(a.length:Int))=(a.length:Int):=by rw[zi (by omega)];omega
 have n1:decide ((a.length:Int)<0)=false:=by apply decide_eq_false;omega
 have n2:decide (((a.length+b.length:Nat):Int)<0)=false:=by apply decide_eq_false;omega
 have hal:=z8.zz a;have hbl:=z8.zz b;have e:z8.zq (a++b)=z8.zq a++z8.zq b:=by simp[z8.zq]
 rw[e];have ht:(z8.zq a++z8.zq b).take (a.length+b.length)=z8.zq a++z8.zq b:=List.take_of_length_le (by rw[List.length_append,hal,hbl];exact Nat.le_refl _);generalize z8.zq a=A at *;generalize z8.zq b=B at *;have g2:uJ [[T.list 6 A],[T.list 6 B]] 2=none:=rfl;have A2:∀ s:Int,EV prog pol (.loop 154 58 0 [.t (.list 1 [[.list 6 A],[.list 6 B]]),.t (.int .i64 s),.t (.list 1 [[.list 6 A],[.list 6 B]]),.t (.int .i64 2),.t (.int .i64 2)] [])=some (.loop (.exit 0) [.t (.list 1 [[.list 6 A],[.list 6 B]]),.t (.int .i64 s)] []):=fun s=>by
  have c:decide ((2:Int)<2)=false:=rfl;refine zh func154 rfl rfl ?_;simp (disch:=(try simp only[LL]);omega) only[↓GO,↓DRW,GA,GX,ren,zj,za,refs,z7,cst,zm,isC,bin,una,z6,zd,blt,asArg,zg,zc,zf,z1,zn,unN,ze,zk,zb,GS,simprocAttr,GZ,c,zA]
 have A1:EV prog pol (.loop 154 58 0 [.t (.list 1 [[.list 6 A],[.list 6 B]]),.t (.int .i64 (a.length:Int)),.t (.list 1 [[.list 6 A],[.list 6 B]]),.t (.int .i64 2),.t (.int .i64 1)] [])=some (.loop (.exit 0) [.t (.list 1 [[.list 6 A],[.list 6 B]]),.t (.int .i64 ((a.length+b.length:Nat):Int))] []):=by
  have c:decide ((1:Int)<2)=true:=rfl;have g1:uJ [[T.list 6 A],[T.list 6 B]] 1=some [.list 6 B]:=rfl;have w2:IntKind.i64.wrap 2=2:=rfl;have IH:=A2 ((a.length+b.length:Nat):Int);refine zh func154 rfl rfl ?_;simp (disch:=(try simp only[LL]);omega) only[↓GO,↓DRW,GA,GX,ren,zj,za,refs,z7,cst,zm,isC,bin,una,z6,zd,blt,asArg,zg,zc,zf,z1,zn,unN,ze,zk,zb,GS,simprocAttr,GZ,c,g1,hbl,w1,n2,w2,IH,zA]
 have A0:EV prog pol (.loop 154 58 0 [.t (.list 1 [[.list 6 A],[.list 6 B]]),.t (.int .i64 0),.t (.list 1 [[.list 6 A],[.list 6 B]]),.t (.int .i64 2),.t (.int .i64 0)] [])=some (.loop (.exit 0) [.t (.list 1 [[.list 6 A],[.list 6 B]]),.t (.int .i64 ((a.length+b.length:Nat):Int))] []):=by
  have c:decide ((0:Int)<2)=true:=rfl;have g1:uJ [[T.list 6 A],[T.list 6 B]] 0=some [.list 6 A]:=rfl;have w2:IntKind.i64.wrap 1=1:=rfl;refine zh func154 rfl rfl ?_;simp (disch:=(try simp only[LL]);omega) only[↓GO,↓DRW,GA,GX,ren,zj,za,refs,z7,cst,zm,isC,bin,una,z6,zd,blt,asArg,zg,zc,zf,z1,zn,unN,ze,zk,zb,GS,simprocAttr,GZ,c,g1,hal,w0,n1,w2,A1,zA]
 have B2:∀ (es:List (List T)) (n:Nat) (cap:Option Nat),EV prog pol (.loop 154 250 0 [.sl 0 0 n cap,.t (.list 1 [[.list 6 A],[.list 6 B]]),.t (.int .i64 2),.t (.int .i64 2)] [.ts 6 es])=some (.loop (.exit 2) [.sl 0 0 n cap] [.ts 6 es]):=fun es n cap=>by
  have c:decide ((2:Int)<2)=false:=rfl;refine zh func154 rfl rfl ?_;simp (disch:=(try simp only[LL]);omega) only[↓GO,↓DRW,GA,GX,ren,zj,za,refs,z7,cst,zm,isC,bin,una,z6,zd,blt,asArg,zg,zc,zf,z1,zn,unN,ze,zk,zb,GS,simprocAttr,GZ,c,zA]
 have B1:∀ (cap:Option Nat),EV prog pol (.loop 154 250 0 [.sl 0 0 a.length cap,.t (.list 1 [[.list 6 A],[.list 6 B]]),.t (.int .i64 2),.t (.int .i64 1)] [.ts 6 A])=some (.loop (.exit 2) [.sl 0 0 (a.length+b.length) none] [.ts 6 (A++B)]):=fun cap=>by
  have c:decide ((1:Int)<2)=true:=rfl;have g1:uJ [[T.list 6 A],[T.list 6 B]] 1=some [.list 6 B]:=rfl;have w2:IntKind.i64.wrap 2=2:=rfl;have IH:=B2 (A++B) (a.length+b.length) none;refine zh func154 rfl rfl ?_;simp (disch:=(try simp only[LL]);omega) only[↓GO,↓DRW,GA,GX,ren,zj,za,refs,z7,cst,zm,isC,bin,una,z6,zd,blt,asArg,zg,zc,zf,z1,zn,unN,ze,zk,zb,GS,simprocAttr,GZ,c,g1,hal,hbl,w2,IH,zA,y6]
 have B0:EV prog pol (.loop 154 250 0 [.sl 0 0 0 none,.t (.list 1 [[.list 6 A],[.list 6 B]]),.t (.int .i64 2),.t (.int .i64 0)] [.ts 6 []])=some (.loop (.exit 2) [.sl 0 0 (a.length+b.length) none] [.ts 6 (A++B)]):=by
  have c:decide ((0:Int)<2)=true:=rfl;have g1:uJ [[T.list 6 A],[T.list 6 B]] 0=some [.list 6 A]:=rfl;have w2:IntKind.i64.wrap 1=1:=rfl;have IH:=B1 none;refine zh func154 rfl rfl ?_;simp (disch:=(try simp only[LL]);omega) only[↓GO,↓DRW,GA,GX,ren,zj,za,refs,z7,cst,zm,isC,bin,una,z6,zd,blt,asArg,zg,zc,zf,z1,zn,unN,ze,zk,zb,GS,simprocAttr,GZ,c,g1,hal,w2,IH,zA,y6,List.nil_append,Nat.zero_add,List.length_nil]
 apply zu;refine zx rfl func154 rfl (by kernel_rfl) ?_;unfold Tryz.f154;simp (disch:=(try simp only[LL]);omega) only[↓GO,↓DRW,GA,GX,ren,zj,za,refs,z7,cst,zm,isC,bin,una,z6,zd,blt,asArg,zg,zc,zf,z1,zn,unN,ze,zk,zb,GS,simprocAttr,GZ,A0,B0,d1,ht,zA]
theorem c_unI (a b:List Str)(ha:a.length≤4194304)(hb:b.length≤4194304):zr (EV prog pol) 155 [.t (.list 1 (strs a)),.t (.list 1 (strs b))]=some (.t (.list 1 (strs (tq (a++b))))):=by
 have d1:=jl (strs a) (by rw[zo];omega);rw[zo]at d1;have hl:(a++b).length≤8388608:=by rw[List.length_append];omega
 have d2:=Qx (a++b) (by omega) (a.length+b.length) (by simp) none;have hsl:=ij (a++b);have d3:=UL (wy (a++b)) (by omega) (a.length+b.length) (by rw[hsl];simp) none;have e1:strs (a++b)=strs a++strs b:=by simp[strs]
 rw[e1]at d2;have ht:(strs (uV (wy (a++b)))).take (Lib.compact (wy (a++b))).length=strs (tq (a++b)):=by
  unfold uV strs tq;rw[← gy,← List.map_take,List.take_left]
 generalize strs (uV (wy (a++b)))=C at *;generalize (Lib.compact (wy (a++b))).length=cl at *;generalize strs (wy (a++b))=Z at *;generalize strs (tq (a++b))=U at *;have hal:=zo a;have hbl:=zo b;apply zu;refine zx rfl func155 rfl (by kernel_rfl) ?_;unfold Tryz.f155;simp (disch:=(try simp only[LL]);omega) only[↓GO,↓DRW,GA,GX,ren,zj,za,refs,z7,cst,zm,isC,bin,una,z6,zd,blt,asArg,zg,zc,zf,z1,zn,unN,ze,zk,zb,GS,simprocAttr,GZ,d1,d2,d3,ht,hal,hbl,zA,y6]
theorem Rw (cs:List z8)(hl:cs.length≤4194304):∀ (rest pre:List z8) (acc:List Str) (m:Nat) (cap:Option Nat),cs=pre++rest→m=acc.length→m+rest.length≤1073741824→∃ cap',
 EV prog pol (.loop 87 58 0 [.sl 0 0 m cap,.t (.list 6 (z8.zq cs)),.t (.int .i64 (cs.length:Int)),.t (.int .i64 (pre.length:Int))] [.ts 1 (strs acc)])
  = some (.loop (.exit 0) [.sl 0 0 (m+rest.length) cap'] [.ts 1 (strs (acc++rest.map (·.name)))])
 | [],pre,acc,m,cap,h,hm,hmM=>by
  have c:decide ((pre.length:Int)<(cs.length:Int))=false:=by simp[h]
  refine⟨cap,?_⟩;simp only[List.map_nil,List.append_nil,List.length_nil,Nat.add_zero];refine zh func87 rfl rfl ?_;simp (disch:=(try simp only[LL]);omega) only[↓GO,↓DRW,GA,GX,ren,zj,za,refs,z7,cst,zm,isC,bin,una,z6,zd,blt,asArg,zg,zc,zf,z1,zn,unN,ze,zk,zb,GS,simprocAttr,GZ,c,zA]
 | p::rest,pre,acc,m,cap,h,hm,hmM=>by
  have c:decide ((pre.length:Int)<(cs.length:Int))=true:=by simp[h];omega
  have hget:(z8.zq cs)[pre.length]? = some p.enc:=by rw[h];simp[z8.zq]
  have hlen:pre.length+rest.length+1≤cs.length:=by rw[h];simp;omega
  have hsl:(strs acc).length=m:=by rw[zo,hm]
  simp only[List.length_cons]at hmM;obtain⟨cap',IH⟩:=Rw cs hl rest (pre++[p]) (acc++[p.name]) (m+1) none (by rw[h];simp) (by simp[hm]) (by omega);rw[show ((pre++[p]).length:Int)=(pre.length:Int)+1 by simp]at IH;rw[show strs (acc++[p.name])=strs acc++[[.str p.name]] by simp[strs]]at IH;refine⟨cap',?_⟩;rw[List.map_cons,List.length_cons,show m+(rest.length+1)=m+1+rest.length by omega,show acc++p.name::rest.map (·.name)=(acc++[p.name])++rest.map (·.name) by simp];clear h;generalize (acc++[p.name])++rest.map (·.name)=Z at *;obtain⟨pn,version,source,sums,dev,zB⟩:=p;simp only[z8.enc]at hget IH;refine zh func87 rfl rfl ?_;simp (disch:=(try simp only[LL]);omega) only[↓GO,↓DRW,GA,GX,ren,zj,za,refs,z7,cst,zm,isC,bin,una,z6,zd,blt,asArg,zg,zc,zf,z1,zn,unN,ze,zk,zb,GS,simprocAttr,GZ,c,hget,zi,hsl,zA,IH,y6]
theorem c_nmI (a b:zy)(ha:GB a)(hb:GB b):zr (EV prog pol) 87 [.agg (a.enc.map .t),.agg (b.enc.map .t)]=some (.t (.list 1 (strs (yR a b)))):=by
 have h1:=ha.len.1;have h2:=hb.len.1;have d1:=Vs a.packs b.packs h1 h2;have hl:(a.packs++b.packs).length≤2097152:=by rw[List.length_append];omega
 obtain⟨cap,L⟩:=Rw (a.packs++b.packs) (by omega) (a.packs++b.packs) [] [] 0 (some 0) rfl rfl (by omega);have d2:=c_unI ((a.packs++b.packs).map (·.name)) [] (by rw[List.length_map];omega) (by simp);rw[List.append_nil]at d2;simp only[List.length_nil,Int.natCast_zero,show strs []=[] from rfl,List.nil_append,Nat.zero_add]at L d2;unfold yR;have ht:(strs ((a.packs++b.packs).map (·.name))).take (a.packs++b.packs).length=strs ((a.packs++b.packs).map (·.name)):=List.take_of_length_le (by rw[zo,List.length_map];exact Nat.le_refl _);clear ha hb h1 h2;obtain⟨ta,pa⟩:=a;obtain⟨tb,pb⟩:=b;simp only[zy.enc,List.map_cons,List.map_nil]at d1 d2 L ht hl ⊢;have hal:=z8.zz (pa++pb);generalize tq ((pa++pb).map (·.name))=U at *;generalize (pa++pb).map (·.name)=M at *;generalize pa++pb=cs at *;apply zu;refine zx rfl func87 rfl (by kernel_rfl) ?_;unfold Tryz.f87;simp (disch:=(try simp only[LL]);omega) only[↓GO,↓DRW,GA,GX,ren,zj,za,refs,z7,cst,zm,isC,bin,una,z6,zd,blt,asArg,zg,zc,zf,z1,zn,unN,ze,zk,zb,GS,simprocAttr,GZ,d1,d2,L,ht,hal,zA]
theorem YW {l:List Str}{s:Str}(h:atS l s=false):(vD l s).length=l.length+1:=by
 rw[ec l s h];have:=fG l s;simp only[List.length_append,List.length_take,List.length_cons,List.length_drop];omega
theorem aW (a b:zy)(ha:GB a):∀ (rest pre:List z8) (acc:List Str) (m:Nat) (cap:Option Nat),a.packs=pre++rest→m=acc.length→m+rest.length≤2097152→∃ cap',
 EV prog pol (.loop 91 58 0 [.ptr 0 0 0,.ptr 1 0 0,.sl 2 0 m cap,.t (.int .i64 (pre.length:Int))] [.vs 2 [a.enc.map .t],.vs 2 [b.enc.map .t],.ts 1 (strs acc)])
  = some (.loop (.exit 0) [.ptr 0 0 0,.sl 1 0 (xo acc (rest.map (·.name))).length cap'] [.vs 2 [b.enc.map .t],.ts 1 (strs (xo acc (rest.map (·.name))))])
 | [],pre,acc,m,cap,h,hm,hmM=>by
  have c:decide ((pre.length:Int)<(a.packs.length:Int))=false:=by simp[h]
  refine⟨cap,?_⟩;rw[List.map_nil,show xo acc []=acc from rfl,← hm];clear ha;obtain⟨ta,pa⟩:=a;obtain⟨tb,pb⟩:=b;simp only[zy.enc,List.map_cons,List.map_nil]at c ⊢;refine zh func91 rfl rfl ?_;simp (disch:=(try simp only[LL]);omega) only[↓GO,↓DRW,GA,GX,ren,zj,za,refs,z7,cst,zm,isC,bin,una,z6,zd,blt,asArg,zg,zc,zf,z1,zn,unN,ze,zk,zb,GS,simprocAttr,GZ,c,z8.zz,zA]
 | p :: rest, pre, acc, m, cap, h, hm, hmM => by
  have c:decide ((pre.length:Int)<(a.packs.length:Int))=true:=by simp[h];omega
  have hget:(z8.zq a.packs)[pre.length]? = some p.enc:=by rw[h];simp[z8.zq]
  have hlen:pre.length+rest.length+1≤a.packs.length:=by rw[h];simp;omega
  have hpl:=ha.len.1;simp only[List.length_cons]at hmM;rw[List.map_cons,uY]
  cases q:atS acc p.name with
  | true =>
   have d1:=UN acc (by omega) p.name m hm cap q;have e:=jt acc p.name q;obtain⟨cap',IH⟩:=aW a b ha rest (pre++[p]) acc m cap (by rw[h];simp) hm (by omega);rw[show ((pre++[p]).length:Int)=(pre.length:Int)+1 by simp]at IH;refine⟨cap',?_⟩;rw[e];clear h ha e;generalize xo acc (rest.map (·.name))=Z at *;obtain⟨ta,pa⟩:=a;obtain⟨tb,pb⟩:=b;obtain⟨pn,version,source,sums,dev,zB⟩:=p;simp only[zy.enc,z8.enc,List.map_cons,List.map_nil]at c hget hpl hlen IH d1 ⊢;refine zh func91 rfl rfl ?_;simp (disch:=(try simp only[LL]);omega) only[↓GO,↓DRW,GA,GX,ren,zj,za,refs,z7,cst,zm,isC,bin,una,z6,zd,blt,asArg,zg,zc,zf,z1,zn,unN,ze,zk,zb,GS,simprocAttr,GZ,c,hget,z8.zz,zi,d1,zA,IH]
  | false =>
   have d1:=UO acc (by omega) p.name m hm cap q;obtain⟨cap',IH⟩:=aW a b ha rest (pre++[p]) (vD acc p.name) (m+1) none (by rw[h];simp) (by rw[YW q,hm]) (by omega);rw[show ((pre++[p]).length:Int)=(pre.length:Int)+1 by simp]at IH;refine⟨cap',?_⟩;clear h ha;generalize xo (vD acc p.name) (rest.map (·.name))=Z at *;generalize vD acc p.name=acc' at *;obtain⟨ta,pa⟩:=a;obtain⟨tb,pb⟩:=b;obtain⟨pn,version,source,sums,dev,zB⟩:=p;simp only[zy.enc,z8.enc,List.map_cons,List.map_nil]at c hget hpl hlen IH d1 ⊢;refine zh func91 rfl rfl ?_;simp (disch:=(try simp only[LL]);omega) only[↓GO,↓DRW,GA,GX,ren,zj,za,refs,z7,cst,zm,isC,bin,una,z6,zd,blt,asArg,zg,zc,zf,z1,zn,unN,ze,zk,zb,GS,simprocAttr,GZ,c,hget,z8.zz,zi,d1,zA,IH]
theorem aV (b:zy)(hb:GB b):∀ (rest pre:List z8) (acc:List Str) (m:Nat) (cap:Option Nat),b.packs=pre++rest→m=acc.length→m+rest.length≤4194304→∃ cap',
 EV prog pol (.loop 91 122 0 [.ptr 0 0 0,.sl 1 0 m cap,.t (.int .i64 (pre.length:Int))] [.vs 2 [b.enc.map .t],.ts 1 (strs acc)])
  = some (.loop (.exit 2) [.sl 0 0 (xo acc (rest.map (·.name))).length cap'] [.ts 1 (strs (xo acc (rest.map (·.name))))])
 | [],pre,acc,m,cap,h,hm,hmM=>by
  have c:decide ((pre.length:Int)<(b.packs.length:Int))=false:=by simp[h]
  refine⟨cap,?_⟩;rw[List.map_nil,show xo acc []=acc from rfl,← hm];clear hb;obtain⟨tb,pb⟩:=b;simp only[zy.enc,List.map_cons,List.map_nil]at c ⊢;refine zh func91 rfl rfl ?_;simp (disch:=(try simp only[LL]);omega) only[↓GO,↓DRW,GA,GX,ren,zj,za,refs,z7,cst,zm,isC,bin,una,z6,zd,blt,asArg,zg,zc,zf,z1,zn,unN,ze,zk,zb,GS,simprocAttr,GZ,c,z8.zz,zA]
 | p :: rest, pre, acc, m, cap, h, hm, hmM => by
  have c:decide ((pre.length:Int)<(b.packs.length:Int))=true:=by simp[h];omega
  have hget:(z8.zq b.packs)[pre.length]? = some p.enc:=by rw[h];simp[z8.zq]
  have hlen:pre.length+rest.length+1≤b.packs.length:=by rw[h];simp;omega
  have hpl:=hb.len.1;simp only[List.length_cons]at hmM;rw[List.map_cons,uY]
  cases q:atS acc p.name with
  | true =>
   have d1:=UN acc (by omega) p.name m hm cap q;have e:=jt acc p.name q;obtain⟨cap',IH⟩:=aV b hb rest (pre++[p]) acc m cap (by rw[h];simp) hm (by omega);rw[show ((pre++[p]).length:Int)=(pre.length:Int)+1 by simp]at IH;refine⟨cap',?_⟩;rw[e];clear h hb e;generalize xo acc (rest.map (·.name))=Z at *;obtain⟨tb,pb⟩:=b;obtain⟨pn,version,source,sums,dev,zB⟩:=p;simp only[zy.enc,z8.enc,List.map_cons,List.map_nil]at c hget hpl hlen IH d1 ⊢;refine zh func91 rfl rfl ?_;simp (disch:=(try simp only[LL]);omega) only[↓GO,↓DRW,GA,GX,ren,zj,za,refs,z7,cst,zm,isC,bin,una,z6,zd,blt,asArg,zg,zc,zf,z1,zn,unN,ze,zk,zb,GS,simprocAttr,GZ,c,hget,z8.zz,zi,d1,zA,IH]
  | false =>
   have d1:=UO acc (by omega) p.name m hm cap q;obtain⟨cap',IH⟩:=aV b hb rest (pre++[p]) (vD acc p.name) (m+1) none (by rw[h];simp) (by rw[YW q,hm]) (by omega);rw[show ((pre++[p]).length:Int)=(pre.length:Int)+1 by simp]at IH;refine⟨cap',?_⟩;clear h hb;generalize xo (vD acc p.name) (rest.map (·.name))=Z at *;generalize vD acc p.name=acc' at *;obtain⟨tb,pb⟩:=b;obtain⟨pn,version,source,sums,dev,zB⟩:=p;simp only[zy.enc,z8.enc,List.map_cons,List.map_nil]at c hget hpl hlen IH d1 ⊢;refine zh func91 rfl rfl ?_;simp (disch:=(try simp only[LL]);omega) only[↓GO,↓DRW,GA,GX,ren,zj,za,refs,z7,cst,zm,isC,bin,una,z6,zd,blt,asArg,zg,zc,zf,z1,zn,unN,ze,zk,zb,GS,simprocAttr,GZ,c,hget,z8.zz,zi,d1,zA,IH]
theorem c_nmR (a b:zy)(ha:GB a)(hb:GB b):zr (EV prog pol) 91 [.agg (a.enc.map .t),.agg (b.enc.map .t)]=some (.t (.list 1 (strs (yR a b)))):=by
 have h1:=ha.len.1;have h2:=hb.len.1;have hal:=pt (a.packs.map (·.name)) [];simp only[List.length_nil,List.length_map,Nat.zero_add]at hal;obtain⟨cap1,L1⟩:=aW a b ha a.packs [] [] 0 (some 0) rfl rfl (by omega);obtain⟨cap2,L2⟩:=aV b hb b.packs [] (xo [] (a.packs.map (·.name))) _ cap1 rfl rfl (by omega);have e:xo (xo [] (a.packs.map (·.name))) (b.packs.map (·.name))=yR a b:=by
  unfold yR;rw[lH,List.map_append,aP]
 rw[e]at L2;have ht:(strs (yR a b)).take (yR a b).length=strs (yR a b):=by rw[← zo (yR a b)];simp
 simp only[List.length_nil,Int.natCast_zero,show strs []=[] from rfl]at L1 L2;clear ha hb e;generalize yR a b=U at *;generalize xo [] (a.packs.map (·.name))=M at *;obtain⟨ta,pa⟩:=a;obtain⟨tb,pb⟩:=b;simp only[zy.enc,List.map_cons,List.map_nil]at L1 L2 ⊢;apply zu;refine zx rfl func91 rfl (by kernel_rfl) ?_;unfold Tryz.f91;simp (disch:=(try simp only[LL]);omega) only[↓GO,↓DRW,GA,GX,ren,zj,za,refs,z7,cst,zm,isC,bin,una,z6,zd,blt,asArg,zg,zc,zf,z1,zn,unN,ze,zk,zb,GS,simprocAttr,GZ,L1,L2,ht,zA]
theorem SK (s:Str)(hl:s.length≤1048700):zr (EV prog pol) 165 [.t (.str s)]=some (.t (.bool (isV s))):=by
 have h:=Xl s hl;unfold rvT at h;unfold isV;generalize (zJ s).1=v at *;generalize (zJ s).2=ok at *;simp only[Ver.enc,List.map_cons,List.map_nil]at h;apply zu;refine zx rfl func165 rfl (by kernel_rfl) ?_;unfold Tryz.f165;simp (disch:=(try simp only[LL]);omega) only[↓GO,↓DRW,GA,GX,ren,zj,za,refs,z7,cst,zm,isC,bin,una,z6,zd,blt,asArg,zg,zc,zf,z1,zn,unN,ze,zk,zb,GS,simprocAttr,GZ,h]
theorem hd_eq (x:UInt8)(c:UInt8):((x.toNat:Int)==(c.toNat:Int))=(x==c):=by
 rw[Bool.eq_iff_iff];simp only[beq_iff_eq];constructor
 · intro h;exact UInt8.toNat_inj.1 (by omega)
 · intro h;rw[h]
theorem uB (a b:Int):zr (EV prog pol) 129 [.t (.int .i64 a),.t (.int .i64 b)]=some (.t (.int .i64 (xe a b))):=by
 unfold xe
 cases h1:decide (a<b)<;>cases h2:decide (a > b)
 all_goals
  apply zu;refine zx rfl func129 rfl (by kernel_rfl) ?_;unfold Tryz.f129;simp (disch:=(try simp only[LL]);omega) only[↓GO,↓DRW,GA,GX,ren,zj,za,refs,z7,cst,zm,isC,bin,una,z6,zd,blt,asArg,zg,zc,zf,z1,zn,unN,ze,zk,zb,GS,simprocAttr,GZ,h1,h2]
theorem Y6:∀ s:Str,s.length≤4194304→EV prog pol (.loop 233 12 0 [.t (.str s),.t (.int .u8 48)] [])=some (.loop (.exit 0) [.t (.str (wO s))] [])
 | [],_=>by
  refine zh func233 rfl rfl ?_;simp (disch:=(try simp only[LL]);omega) only[↓GO,↓DRW,GA,GX,ren,zj,za,refs,z7,cst,zm,isC,bin,una,z6,zd,blt,asArg,zg,zc,zf,z1,zn,unN,ze,zk,zb,GS,simprocAttr,GZ,List.length_nil,Int.natCast_zero];rfl
 | b :: s, h => by
  have c:decide (((s.length+1:Nat):Int) > 0)=true:=by apply decide_eq_true;omega
  have hb:((b.toNat:Int)==48)=(b==48):=by
   rw[Bool.eq_iff_iff];simp only[beq_iff_eq];constructor
   · intro h;apply UInt8.toNat_inj.1;have:(48:UInt8).toNat=48:=rfl;omega
   · intro h;subst h;rfl
  have hcut:(1:Int)≤((s.length+1:Nat):Int):=by omega
  cases hz:(b==48) with
  | false =>
   rw[hz]at hb;have e:wO (b::s)=b::s:=by unfold wO;simp[List.dropWhile,hz]
   rw[e];refine zh func233 rfl rfl ?_;simp (disch:=(try simp only[LL]);omega) only[↓GO,↓DRW,GA,GX,ren,zj,za,refs,z7,cst,zm,isC,bin,una,z6,zd,blt,asArg,zg,zc,zf,z1,zn,unN,ze,zk,zb,GS,simprocAttr,GZ,c,hb,hcut]
  | true =>
   rw[hz]at hb;have IH:=Y6 s (by simp only[List.length_cons]at h;omega);have e:wO (b::s)=wO s:=by unfold wO;simp[List.dropWhile,hz]
   rw[e];refine zh func233 rfl rfl ?_;simp (disch:=(try simp only[LL]);omega) only[↓GO,↓DRW,GA,GX,ren,zj,za,refs,z7,cst,zm,isC,bin,una,z6,zd,blt,asArg,zg,zc,zf,z1,zn,unN,ze,zk,zb,GS,simprocAttr,GZ,c,hb,hcut,IH]
theorem YR (s:Str)(h:s.length≤4194304):zr (EV prog pol) 193 [.t (.str s),.t (.str [48])]=some (.t (.str (wO s))):=by
 have L:=Y6 s h;have d:zr (EV prog pol) 233 [.t (.str s),.t (.int .u8 48)]=some (.t (.str (wO s))):=by
  apply zu;refine zx rfl func233 rfl (by kernel_rfl) ?_;unfold Tryz.f233;simp (disch:=(try simp only[LL]);omega) only[↓GO,↓DRW,GA,GX,ren,zj,za,refs,z7,cst,zm,isC,bin,una,z6,zd,blt,asArg,zg,zc,zf,z1,zn,unN,ze,zk,zb,GS,simprocAttr,GZ,L]
 cases hs:(s==[]) with
 | true =>
  have:s=[]:=by simpa using hs
  subst this;apply zu;refine zx rfl func193 rfl (by kernel_rfl) ?_;unfold Tryz.f193;simp (disch:=(try simp only[LL]);omega) only[↓GO,↓DRW,GA,GX,ren,zj,za,refs,z7,cst,zm,isC,bin,una,z6,zd,blt,asArg,zg,zc,zf,z1,zn,unN,ze,zk,zb,GS,simprocAttr,GZ,hs];rfl
 | false =>
  have h48:(([48]:Str)==[])=false:=rfl;have h49:((UInt8.toNat 48:Nat):Int)=48:=rfl;have h50:decide ((48:Int)<128)=true:=rfl;apply zu;refine zx rfl func193 rfl (by kernel_rfl) ?_;unfold Tryz.f193;simp (disch:=(try simp only[LL]);omega) only[↓GO,↓DRW,GA,GX,ren,zj,za,refs,z7,cst,zm,isC,bin,una,z6,zd,blt,asArg,zg,zc,zf,z1,zn,unN,ze,zk,zb,GS,simprocAttr,GZ,hs,h48,h49,h50,d,List.length_cons,List.length_nil]
theorem Vt (a b:Str)(ha:a.length≤4194304)(hb:b.length≤4194304):zr (EV prog pol) 130 [.t (.str a),.t (.str b)]=some (.t (.int .i64 (YP a b))):=by
 have d1:=fX a (by omega);have d2:=fX b (by omega);have d3:=YR a ha;have d4:=YR b hb;have d5:=uB ((wO a).length:Int) ((wO b).length:Int);have d6:=UH a b;have d7:=UH (wO a) (wO b);rw[bE]at d6 d7;unfold YP;generalize wO a=ta at *;generalize wO b=tb at *;generalize xe (ta.length:Int) (tb.length:Int)=n at *
 cases h1:isNum a<;>cases h2:isNum b<;>rw[h1]at d1<;>rw[h2]at d2<;>simp only[Bool.and_true,Bool.and_false,cond_true,cond_false]
 · apply zu;refine zx rfl func130 rfl (by kernel_rfl) ?_;unfold Tryz.f130;simp (disch:=(try simp only[LL]);omega) only[↓GO,↓DRW,GA,GX,ren,zj,za,refs,z7,cst,zm,isC,bin,una,z6,zd,blt,asArg,zg,zc,zf,z1,zn,unN,ze,zk,zb,GS,simprocAttr,GZ,d1,d2,d6]
 · apply zu;refine zx rfl func130 rfl (by kernel_rfl) ?_;unfold Tryz.f130;simp (disch:=(try simp only[LL]);omega) only[↓GO,↓DRW,GA,GX,ren,zj,za,refs,z7,cst,zm,isC,bin,una,z6,zd,blt,asArg,zg,zc,zf,z1,zn,unN,ze,zk,zb,GS,simprocAttr,GZ,d1,d2,d6]
 · apply zu;refine zx rfl func130 rfl (by kernel_rfl) ?_;unfold Tryz.f130;simp (disch:=(try simp only[LL]);omega) only[↓GO,↓DRW,GA,GX,ren,zj,za,refs,z7,cst,zm,isC,bin,una,z6,zd,blt,asArg,zg,zc,zf,z1,zn,unN,ze,zk,zb,GS,simprocAttr,GZ,d1,d2,d6]
 · cases hn:(n==0)
   all_goals
    simp only[cond_true,cond_false];apply zu;refine zx rfl func130 rfl (by kernel_rfl) ?_;unfold Tryz.f130;simp (disch:=(try simp only[LL]);omega) only[↓GO,↓DRW,GA,GX,ren,zj,za,refs,z7,cst,zm,isC,bin,una,z6,zd,blt,asArg,zg,zc,zf,z1,zn,unN,ze,zk,zb,GS,simprocAttr,GZ,d1,d2,d3,d4,d5,d7,hn,bne]
theorem S6 (x1 x2 x3 x4 y1 y2 y3 y4:T)(a b c:Int) :
 EV prog pol (.loop 47 26 0 [.ptr 0 0 0,.ptr 1 0 0,.sl 2 0 3 (some 3),.t (.int .i64 3),.t (.int .i64 0)] [.vs 4 [[.t x1,.t x2,.t x3,.t x4]],.vs 4 [[.t y1,.t y2,.t y3,.t y4]],.ts 1 [[.int .i64 a],[.int .i64 b],[.int .i64 c]]])
 = some (cond (a==0) (cond (b==0) (cond (c==0) (.loop (.exit 0) [.ptr 0 0 0,.ptr 1 0 0,.bad] [.vs 4 [[.t x1,.t x2,.t x3,.t x4]],.vs 4 [[.t y1,.t y2,.t y3,.t y4]]])
  (.loop .ret [.ptr 0 0 0,.ptr 1 0 0,.t (.int .i64 c)] [.vs 4 [[.t x1,.t x2,.t x3,.t x4]],.vs 4 [[.t y1,.t y2,.t y3,.t y4]]]))
  (.loop .ret [.ptr 0 0 0,.ptr 1 0 0,.t (.int .i64 b)] [.vs 4 [[.t x1,.t x2,.t x3,.t x4]],.vs 4 [[.t y1,.t y2,.t y3,.t y4]]]))
  (.loop .ret [.ptr 0 0 0,.ptr 1 0 0,.t (.int .i64 a)] [.vs 4 [[.t x1,.t x2,.t x3,.t x4]],.vs 4 [[.t y1,.t y2,.t y3,.t y4]]])):=by
 cases h1:(a==0)
 · refine zh func47 rfl rfl ?_;simp (disch:=(try simp only[LL]);omega) only[↓GO,↓DRW,GA,GX,ren,zj,za,refs,z7,cst,zm,isC,bin,una,z6,zd,blt,asArg,zg,zc,zf,z1,zn,unN,ze,zk,zb,GS,simprocAttr,GZ,h1,bne,zi,zA]
 · refine zh func47 rfl rfl ?_;simp (disch:=(try simp only[LL]);omega) only[↓GO,↓DRW,GA,GX,ren,zj,za,refs,z7,cst,zm,isC,bin,una,z6,zd,blt,asArg,zg,zc,zf,z1,zn,unN,ze,zk,zb,GS,simprocAttr,GZ,h1,bne,zi,zA,Int.zero_add]
   cases h2:(b==0)
   · refine zh func47 rfl rfl ?_;simp (disch:=(try simp only[LL]);omega) only[↓GO,↓DRW,GA,GX,ren,zj,za,refs,z7,cst,zm,isC,bin,una,z6,zd,blt,asArg,zg,zc,zf,z1,zn,unN,ze,zk,zb,GS,simprocAttr,GZ,h2,bne,zi,zA]
   · refine zh func47 rfl rfl ?_;simp (disch:=(try simp only[LL]);omega) only[↓GO,↓DRW,GA,GX,ren,zj,za,refs,z7,cst,zm,isC,bin,una,z6,zd,blt,asArg,zg,zc,zf,z1,zn,unN,ze,zk,zb,GS,simprocAttr,GZ,h2,bne,zi,zA,Int.reduceAdd]
     cases h3:(c==0)
     · refine zh func47 rfl rfl ?_;simp (disch:=(try simp only[LL]);omega) only[↓GO,↓DRW,GA,GX,ren,zj,za,refs,z7,cst,zm,isC,bin,una,z6,zd,blt,asArg,zg,zc,zf,z1,zn,unN,ze,zk,zb,GS,simprocAttr,GZ,h3,bne,zi,zA]
     · refine zh func47 rfl rfl ?_;simp (disch:=(try simp only[LL]);omega) only[↓GO,↓DRW,GA,GX,ren,zj,za,refs,z7,cst,zm,isC,bin,una,z6,zd,blt,asArg,zg,zc,zf,z1,zn,unN,ze,zk,zb,GS,simprocAttr,GZ,h3,bne,zi,zA,Int.reduceAdd];refine zh func47 rfl rfl ?_;simp (disch:=(try simp only[LL]);omega) only[↓GO,↓DRW,GA,GX,ren,zj,za,refs,z7,cst,zm,isC,bin,una,z6,zd,blt,asArg,zg,zc,zf,z1,zn,unN,ze,zk,zb,GS,simprocAttr,GZ,zi,zA]
theorem Yf (a b:Ver)(ha:a.sm)(hb:b.sm)(M:Nat)(hM:M=min a.pre.length b.pre.length):∀ (ra rb pa pb:List Str),a.pre=pa++ra→b.pre=pb++rb→pa.length=pb.length →
 EV prog pol (.loop 47 122 0 [.ptr 0 0 0,.ptr 1 0 0,.t (.int .i64 (M:Int)),.t (.int .i64 (pa.length:Int))] [.vs 4 [a.enc.map .t],.vs 4 [b.enc.map .t]])
 = some (match qk ra rb with
  | some n=>.loop .ret [.ptr 0 0 0,.ptr 1 0 0,.t (.int .i64 n)] [.vs 4 [a.enc.map .t],.vs 4 [b.enc.map .t]]
  | none=>.loop (.exit 2) [.ptr 0 0 0,.ptr 1 0 0,.bad] [.vs 4 [a.enc.map .t],.vs 4 [b.enc.map .t]])
 | [],rb,pa,pb,h1,h2,h3=>by
  have l1:a.pre.length=pa.length:=by rw[h1];simp
  have c:decide ((pa.length:Int)<(M:Int))=false:=by apply decide_eq_false;omega
  have e:qk [] rb=none:=by unfold qk;rfl
  rw[e];simp only[Ver.enc,List.map_cons,List.map_nil];refine zh func47 rfl rfl ?_;simp (disch:=(try simp only[LL]);omega) only[↓GO,↓DRW,GA,GX,ren,zj,za,refs,z7,cst,zm,isC,bin,una,z6,zd,blt,asArg,zg,zc,zf,z1,zn,unN,ze,zk,zb,GS,simprocAttr,GZ,zo,c,zA]
 | x::ra,[],pa,pb,h1,h2,h3=>by
  have l2:b.pre.length=pb.length:=by rw[h2];simp
  have c:decide ((pa.length:Int)<(M:Int))=false:=by apply decide_eq_false;omega
  rw[show qk (x::ra) []=none from rfl];simp only[Ver.enc,List.map_cons,List.map_nil];refine zh func47 rfl rfl ?_;simp (disch:=(try simp only[LL]);omega) only[↓GO,↓DRW,GA,GX,ren,zj,za,refs,z7,cst,zm,isC,bin,una,z6,zd,blt,asArg,zg,zc,zf,z1,zn,unN,ze,zk,zb,GS,simprocAttr,GZ,zo,c,zA]
 | x::ra,y::rb,pa,pb,h1,h2,h3=>by
  unfold Ver.sm at ha hb;have l1:pa.length+ra.length+1=a.pre.length:=by rw[h1];simp;omega
  have l2:pb.length+rb.length+1=b.pre.length:=by rw[h2];simp;omega
  have c:decide ((pa.length:Int)<(M:Int))=true:=by apply decide_eq_true;omega
  have hg1:(strs a.pre)[pa.length]? = some [.str x]:=by rw[h1];exact wA pa x ra
  have hg2:(strs b.pre)[pa.length]? = some [.str y]:=by rw[h2,h3];exact wA pb y rb
  have hx:x.length≤2097152:=by have:=vq (ks:=a.pre) (s:=x) (by rw[h1];simp);omega
  have hy:y.length≤2097152:=by have:=vq (ks:=b.pre) (s:=y) (by rw[h2];simp);omega
  have hp:=Vt x y (by omega) (by omega);have IH:=Yf a b ha hb M hM ra rb (pa++[x]) (pb++[y]) (by rw[h1];simp) (by rw[h2];simp) (by simp[h3]);rw[show ((pa++[x]).length:Int)=(pa.length:Int)+1 by simp]at IH;clear h1 h2;simp only[Ver.enc,List.map_cons,List.map_nil]at IH ⊢;rw[qk];generalize YP x y=n at *
  cases hn:(n==0)
  · simp only[cond_false];refine zh func47 rfl rfl ?_;simp (disch:=(try simp only[LL]);omega) only[↓GO,↓DRW,GA,GX,ren,zj,za,refs,z7,cst,zm,isC,bin,una,z6,zd,blt,asArg,zg,zc,zf,z1,zn,unN,ze,zk,zb,GS,simprocAttr,GZ,zo,c,hg1,hg2,hp,hn,bne,zi,zA]
  · simp only[cond_true];refine zh func47 rfl rfl ?_;simp (disch:=(try simp only[LL]);omega) only[↓GO,↓DRW,GA,GX,ren,zj,za,refs,z7,cst,zm,isC,bin,una,z6,zd,blt,asArg,zg,zc,zf,z1,zn,unN,ze,zk,zb,GS,simprocAttr,GZ,zo,c,hg1,hg2,hp,hn,bne,zi,zA,IH]
theorem SO (a b : Ver) (ha : a.sm) (hb : b.sm) : zr (EV prog pol) 47 [.agg (a.enc.map .t), .agg (b.enc.map .t)] = some (.t (.int .i64 (Wh a b))) := by
 have d1:=uB a.maj b.maj;have d2:=uB a.min b.min;have d3:=uB a.pat b.pat;have d4:=uB (b.pre.length:Int) (a.pre.length:Int);have d5:=uB (a.pre.length:Int) (b.pre.length:Int);obtain⟨M,hM⟩:∃ M,M=min a.pre.length b.pre.length:=⟨_,rfl⟩;have L2:=Yf a b ha hb M hM a.pre b.pre [] [] rfl rfl rfl;have L1:=S6 (.int .i64 a.maj) (.int .i64 a.min) (.int .i64 a.pat) (.list 1 (strs a.pre)) (.int .i64 b.maj) (.int .i64 b.min) (.int .i64 b.pat) (.list 1 (strs b.pre)) (xe a.maj b.maj) (xe a.min b.min) (xe a.pat b.pat);have e1:=qh a.pre;have e2:=qh b.pre;have hm:(if (b.pre.length:Int)<(a.pre.length:Int) then (b.pre.length:Int) else (a.pre.length:Int))=(M:Int):=by split<;>omega
 clear hM;unfold Wh;simp only[List.length_nil,Int.natCast_zero]at L2;simp only[Ver.enc,List.map_cons,List.map_nil]at L1 L2 ⊢;generalize xe a.maj b.maj=n1 at *;generalize xe a.min b.min=n2 at *;generalize xe a.pat b.pat=n3 at *
 cases h1:(n1==0)<;>rw[h1]at L1
 · simp only[cond_false]at L1;apply zu;refine zx rfl func47 rfl (by kernel_rfl) ?_;unfold Tryz.f47;simp (disch:=(try simp only[LL]);omega) only[↓GO,↓DRW,GA,GX,ren,zj,za,refs,z7,cst,zm,isC,bin,una,z6,zd,blt,asArg,zg,zc,zf,z1,zn,unN,ze,zk,zb,GS,simprocAttr,GZ,d1,d2,d3,L1,zA];refine zT (by kernel_rfl) ?_;simp (disch:=(try simp only[LL]);omega) only[↓GO,↓DRW,GA,GX,ren,zj,za,refs,z7,cst,zm,isC,bin,una,z6,zd,blt,asArg,zg,zc,zf,z1,zn,unN,ze,zk,zb,GS,simprocAttr,GZ,d1,d2,d3,L1,zA]
 · cases h2:(n2==0)<;>rw[h2]at L1
   · simp only[cond_false,cond_true]at L1;apply zu;refine zx rfl func47 rfl (by kernel_rfl) ?_;unfold Tryz.f47;simp (disch:=(try simp only[LL]);omega) only[↓GO,↓DRW,GA,GX,ren,zj,za,refs,z7,cst,zm,isC,bin,una,z6,zd,blt,asArg,zg,zc,zf,z1,zn,unN,ze,zk,zb,GS,simprocAttr,GZ,d1,d2,d3,L1,zA];refine zT (by kernel_rfl) ?_;simp (disch:=(try simp only[LL]);omega) only[↓GO,↓DRW,GA,GX,ren,zj,za,refs,z7,cst,zm,isC,bin,una,z6,zd,blt,asArg,zg,zc,zf,z1,zn,unN,ze,zk,zb,GS,simprocAttr,GZ,d1,d2,d3,L1,zA]
   · cases h3:(n3==0)<;>rw[h3]at L1
     · simp only[cond_false,cond_true]at L1;apply zu;refine zx rfl func47 rfl (by kernel_rfl) ?_;unfold Tryz.f47;simp (disch:=(try simp only[LL]);omega) only[↓GO,↓DRW,GA,GX,ren,zj,za,refs,z7,cst,zm,isC,bin,una,z6,zd,blt,asArg,zg,zc,zf,z1,zn,unN,ze,zk,zb,GS,simprocAttr,GZ,d1,d2,d3,L1,zA];refine zT (by kernel_rfl) ?_;simp (disch:=(try simp only[LL]);omega) only[↓GO,↓DRW,GA,GX,ren,zj,za,refs,z7,cst,zm,isC,bin,una,z6,zd,blt,asArg,zg,zc,zf,z1,zn,unN,ze,zk,zb,GS,simprocAttr,GZ,d1,d2,d3,L1,zA]
     · simp only[cond_true]at L1
       cases hs:qk a.pre b.pre<;>rw[hs]at L2<;>simp only at L2<;>cases h4:(a.pre==[])<;>cases h5:(b.pre==[])<;>rw[h4]at e1<;>rw[h5]at e2
       all_goals
        apply zu;refine zx rfl func47 rfl (by kernel_rfl) ?_;unfold Tryz.f47;simp (disch:=(try simp only[LL]);omega) only[↓GO,↓DRW,GA,GX,ren,zj,za,refs,z7,cst,zm,isC,bin,una,z6,zd,blt,asArg,zg,zc,zf,z1,zn,unN,ze,zk,zb,GS,simprocAttr,GZ,d1,d2,d3,d4,d5,L1,L2,hm,zo,e1,e2,bne,Bool.beq_eq_decide_eq,zA];refine zT (by kernel_rfl) ?_;simp (disch:=(try simp only[LL]);omega) only[↓GO,↓DRW,GA,GX,ren,zj,za,refs,z7,cst,zm,isC,bin,una,z6,zd,blt,asArg,zg,zc,zf,z1,zn,unN,ze,zk,zb,GS,simprocAttr,GZ,d1,d2,d3,d4,d5,L1,L2,hm,zo,e1,e2,bne,zA,Option.getD_some,Option.getD_none]
theorem RS (a b:Str)(ha:a.length≤1048700)(hb:b.length≤1048700):zr (EV prog pol) 89 [.t (.str a),.t (.str b)]=some (.t (.int .i64 (Wh (zJ a).1 (zJ b).1))):=by
 have d1:=Xl a ha;have d2:=Xl b hb;have d3:=SO (zJ a).1 (zJ b).1 (wu a ha).1 (wu b hb).1;unfold rvT at d1 d2;generalize Wh (zJ a).1 (zJ b).1=n at *;generalize (zJ a).1=va at *;generalize (zJ b).1=vb at *;simp only[Ver.enc,List.map_cons,List.map_nil]at d1 d2 d3;apply zu;refine zx rfl func89 rfl (by kernel_rfl) ?_;unfold Tryz.f89;simp (disch:=(try simp only[LL]);omega) only[↓GO,↓DRW,GA,GX,ren,zj,za,refs,z7,cst,zm,isC,bin,una,z6,zd,blt,asArg,zg,zc,zf,z1,zn,unN,ze,zk,zb,GS,simprocAttr,GZ,d1,d2,d3,zA]
end Go.Proofs.YtefkoljdebekdaaGreatDoor
/- What is drawn never goes back. Conditions: those of each lemma. -/
namespace Go.Proofs.YtefkoljdebekdaaGreatDoor.Dr
open Go.Proofs.Tryz
open Go
def rwd {α:Type}:Result α→World
 | .ok _ w=>w
 | .halt _ w=>w
theorem QP {α:Type}:∀ (a:Ask α) (w:World),w.drawn≤(w.ask a).2.drawn:=by
 intro a
 induction a with
 | done a=>intro w;exact Nat.le_refl _
 | ask what range k ih =>
  intro w;unfold World.ask;simp only
  split
  · exact ih _ w
  · exact Nat.le_trans (Nat.le_succ _) (ih _ { w with drawn:=w.drawn+1 })
theorem VV (w:World)(c:Sys):w.drawn≤(w.sys c).2.drawn:=by
 have h:=QP (Kernel.perform c w.os) w;unfold World.sys;generalize w.ask (Kernel.perform c w.os)=x at h;obtain⟨⟨r,os⟩,w'⟩:=x
 cases r<;>first|exact h|exact Nat.le_refl _
theorem Tn {p:Program}{w:World}{at_:Addr}{u:TypeId}{k:Addr}{v:Value}{b:Bool}{x:World×List Addr}(h:w.viewStore p at_ u k v b=.ok x):x.1.drawn=w.drawn:=by
 unfold World.viewStore at h;simp only[bind,Except.bind,pure,Except.pure]at h
 repeat' first
  | (cases h;rfl)
  | (cases h;done)
  | split at h
theorem UE {p:Program}{w:World}{a:Addr}{v:Value}{b:Bool}{x:World×List Addr}(h:w.farStore p a v b=.ok x):x.1.drawn=w.drawn:=by
 unfold World.farStore at h
 split at h
 · split at h
   · rename_i hv
     cases h;exact Tn hv
   · cases h
 · cases h
theorem iZ (w:World)(a:Addr)(n:Nat):(w.freeze a n).drawn=w.drawn:=by
 unfold World.freeze;split<;>rfl
theorem uj {α:Type}(p:Program):∀ (m:Sem α) (w:World) (es:Array Event),w.drawn≤(rwd (m.runT p w es).1).drawn:=by
 intro m
 induction m with
 | pure a=>intro w es;exact Nat.le_refl _
 | load m a k ih =>
  intro w es;unfold Sem.runT
  split
  · exact ih _ _ _
  · split
    · exact ih _ _ _
    · exact Nat.le_refl _
 | store m a v k ih =>
  intro w es
  have key : ∀ v : Value, (∀ x, v ≠ .agg x) → (∀ x, v ≠ .tuple x) → w.drawn ≤ (rwd (Sem.runT p (.store m a v k) w es).1).drawn := fun v h1 h2 => by
   rw[Sem.runT]
   · split
     · split
       · exact Nat.le_refl _
       · exact ih (w.setCell a v) _
     · split
       · rename_i hf;have:=UE hf;simp only at this;rw[← this];exact ih _ _
       · exact Nat.le_refl _
   · exact fun x=>h1 x
   · exact fun x=>h2 x
  cases v with
  | agg x=>exact Nat.le_refl _
  | tuple x=>exact Nat.le_refl _
  | _=>exact key _ (fun x hx=>by cases hx) (fun x hx=>by cases hx)
 | new o k ih=>intro w es;exact ih w.heap.size { w with heap:=w.heap.push o } es
 | shape r k ih=>intro w es;exact ih _ _ _
 | freeze a n k ih=>intro w es;have:=ih (w.freeze a n) es;rw[iZ]at this;exact this
 | frozen a k ih=>intro w es;exact ih _ _ _
 | getObj r k ih =>
  intro w es;unfold Sem.runT
  split<;>first|exact Nat.le_refl _|exact ih _ _ _
 | setObj r o k ih =>
  intro w es;unfold Sem.runT
  split<;>first|exact Nat.le_refl _|exact ih { w with heap:=w.heap.setIfInBounds r o } _
 | choose q k ih =>
  intro w es;unfold Sem.runT
  split
  · exact ih _ _ _
  · exact Nat.le_trans (Nat.le_succ _) (ih _ { w with drawn:=w.drawn+1 } _)
 | sys c k ih=>intro w es;exact Nat.le_trans (VV w c) (ih _ _ _)
 | program k ih=>intro w es;exact ih _ _ _
 | mark mk k ih=>intro w es;exact ih _ _
 | halt h=>intro w es;exact Nat.le_refl _
theorem U0 {α:Type}(p:Program):∀ (m:Sem α) (w:World),w.drawn≤(rwd (m.run p w)).drawn:=by
 intro m
 induction m with
 | pure a=>intro w;exact Nat.le_refl _
 | load m a k ih =>
  intro w;unfold Sem.run
  split
  · exact ih _ _
  · split
    · exact ih _ _
    · exact Nat.le_refl _
 | store m a v k ih =>
  intro w
  have key : ∀ v : Value, (∀ x, v ≠ .agg x) → (∀ x, v ≠ .tuple x) → w.drawn ≤ (rwd (Sem.run p (.store m a v k) w)).drawn := fun v h1 h2 => by
   rw[Sem.run]
   · split
     · split
       · exact Nat.le_refl _
       · exact ih (w.setCell a v)
     · split
       · rename_i hf;have:=UE hf;simp only at this;rw[← this];exact ih _
       · exact Nat.le_refl _
   · exact fun x=>h1 x
   · exact fun x=>h2 x
  cases v with
  | agg x=>exact Nat.le_refl _
  | tuple x=>exact Nat.le_refl _
  | _=>exact key _ (fun x hx=>by cases hx) (fun x hx=>by cases hx)
 | new o k ih=>intro w;exact ih w.heap.size { w with heap:=w.heap.push o }
 | shape r k ih=>intro w;exact ih _ _
 | freeze a n k ih=>intro w;have:=ih (w.freeze a n);rw[iZ]at this;exact this
 | frozen a k ih=>intro w;exact ih _ _
 | getObj r k ih =>
  intro w;unfold Sem.run
  split<;>first|exact Nat.le_refl _|exact ih _ _
 | setObj r o k ih =>
  intro w;unfold Sem.run
  split<;>first|exact Nat.le_refl _|exact ih { w with heap:=w.heap.setIfInBounds r o }
 | choose q k ih =>
  intro w;unfold Sem.run
  split
  · exact ih _ _
  · exact Nat.le_trans (Nat.le_succ _) (ih _ { w with drawn:=w.drawn+1 })
 | sys c k ih=>intro w;exact Nat.le_trans (VV w c) (ih _ _)
 | program k ih=>intro w;exact ih _ _
 | mark mk k ih=>intro w;exact ih _
 | halt h=>intro w;exact Nat.le_refl _
theorem xC {α:Type}{p:Program}{m:Sem α}{w w':World}{a:α}(h:m.run p w=.ok a w'):w.drawn≤w'.drawn:=by
 have:=U0 p m w;rw[h]at this;exact this
theorem TC {α:Type}{p:Program}{m:Sem α}{w w':World}{a:α}{es es':Array Event}(h:m.runT p w es=(.ok a w',es')):w.drawn≤w'.drawn:=by
 have:=uj p m w es;rw[h]at this;exact this
theorem XF {α:Type}{p:Program}{m:Sem α}{w w':World}{a:Halt}{es es':Array Event}(h:m.runT p w es=(.halt a w',es')):w.drawn≤w'.drawn:=by
 have:=uj p m w es;rw[h]at this;exact this
theorem Z8 {α:Type}{p:Program}{m:Sem α}{w w':World}{a:α}{es:Array Event}(h:(m.runT p w es).1=.ok a w'):w.drawn≤w'.drawn:=by
 have:=uj p m w es;rw[h]at this;exact this
theorem V4 {α:Type}{p:Program}{m:Sem α}{w w':World}{a:Halt}{es:Array Event}(h:(m.runT p w es).1=.halt a w'):w.drawn≤w'.drawn:=by
 have:=uj p m w es;rw[h]at this;exact this
def GE (d:Nat):GStep→Prop
 | .go _ w _=>d≤w.drawn
 | .comm _ _ _ _ w _=>d≤w.drawn
 | .spawn _ _ w _=>d≤w.drawn
 | .count _ w _=>d≤w.drawn
 | .timer _ _ w _=>d≤w.drawn
 | .alone _ _ w _=>d≤w.drawn
 | .newcoro _ _ _ w _=>d≤w.drawn
 | .coroswitch _ _ _ w _=>d≤w.drawn
 | .collect _ w _=>d≤w.drawn
 | .watch _ w _=>d≤w.drawn
 | .ended _ _ _=>True
theorem s9 {d:Nat}{es:Array Event}{s:GStep}(h:GE d s):GE d (s.after es):=by cases s<;>exact h
def SE (d:Nat):Stepped→Prop
 | .next m=>d≤m.world.drawn
 | .ended _ _=>True
theorem aC (d:Nat)(w:World)(fd:Nat)(t:ByteArray)(o:Outcome):GE d (endWith w fd t o):=by
 unfold endWith;simp only
 repeat' first|exact trivial|split
theorem Vd {d:Nat}{w:World}(h:d≤w.drawn)(fr:Frame)(l:List ByteArray)(m:String)(b:Bool):GE d (dieOf fr l m b w):=h
theorem r5 {d:Nat}{w:World}(h:d≤w.drawn)(fr:Frame)(m:String):GE d (endThrow fr m w):=h
theorem sS {d:Nat}{w:World}(h:d≤w.drawn)(p:Program)(fr:Frame)(v:Value):GE d (endPrinting p fr v w):=by
 unfold endPrinting;simp only
 repeat' first|exact trivial|exact r5 h _ _|split
theorem mM {d:Nat}{w:World}(h:d≤w.drawn)(p:Program)(fr:Frame)(cs:List Frame)(dy:Option Dying)(m:String):GE d (endFatal p fr cs dy m w):=by
 unfold endFatal;simp only
 split
 · rename_i hr;exact Vd (Nat.le_trans h (xC hr)) _ _ _ _
 · exact trivial
 · exact trivial
theorem a8 {d:Nat}{w:World}(h:d≤w.drawn)(p:Program)(fr:Frame)(dy:Dying)(f:Fatal):GE d (writeOn p fr dy f w):=by
 unfold writeOn;simp only
 split
 · exact trivial
 · split
   · rename_i hr;exact Nat.le_trans h (TC hr)
   · rename_i hr;exact Nat.le_trans h (XF hr)
   · exact trivial
   · exact trivial
theorem Qo {d:Nat}{w:World}(h:d≤w.drawn)(p:Program)(fr:Frame)(dy:Dying):GE d (die p fr dy w):=by
 unfold die
 split
 · exact a8 h _ _ _ _
 · split
   · split
     · exact h
     · exact aC _ _ _ _ _
   · simp only
     split
     · exact h
     · split
       · rename_i hr;exact Nat.le_trans h (xC hr)
       · exact trivial
     · rename_i t recv name _;have hx:=uj p (invoke (.fn (.method name) #[]) #[.iface t recv]) w #[];generalize (invoke (.fn (.method name) #[]) #[.iface t recv]).runT p w #[]=x at hx;obtain⟨r,es⟩:=x;refine s9 ?_;simp only at hx ⊢
       split
       · exact Nat.le_trans h hx
       · exact Nat.le_trans h hx
       · exact trivial
       · exact sS (Nat.le_trans h hx) _ _ _
       · exact trivial
     · exact trivial
theorem r6 {d:Nat}{w:World}(h:d≤w.drawn)(p:Program)(b:Bool)(fr:Frame)(cs:List Frame)(dy:Option Dying)(v:Value):GE d (doReturn p b fr cs dy v w):=by
 unfold doReturn
 repeat' first|exact trivial|exact h|split
theorem mU {d:Nat}{w:World}(h:d≤w.drawn)(p:Program)(fr:Frame)(cs:List Frame)(dy:Option Dying)(df:Deferred):GE d (callDeferred p fr cs dy df w):=by
 unfold callDeferred;have hx:=uj p (invoke df.target df.args) w #[];generalize (invoke df.target df.args).runT p w #[]=x at hx;obtain⟨r,es⟩:=x;simp only at hx ⊢;have hy:=Nat.le_trans h hx;clear hx h
 repeat' first|exact trivial|exact hy|exact mM hy _ _ _ _ _|exact r5 hy _ _|refine s9 ?_|split
theorem Xr {d:Nat}{w:World}(h:d≤w.drawn)(p:Program)(b:Bool)(fr:Frame)(cs:List Frame)(dy:Option Dying):GE d (unwind p b fr cs dy w):=by
 unfold unwind
 split
 · rename_i block _ _ _;have hx:=uj p (Instr.takeDeferred block) w #[];generalize (Instr.takeDeferred block).runT p w #[]=x at hx;obtain⟨r,es⟩:=x;refine s9 ?_;simp only at hx ⊢
   split
   · exact Nat.le_trans h hx
   · exact trivial
 · exact mU h _ _ _ _ _
 · split
   · exact trivial
   · repeat' first
      | exact trivial
      | exact h
      | (rename_i hr;exact Nat.le_trans h (xC hr))
      | exact sS h _ _ _
      | split
   · split
     · exact r6 h _ _ _ _ _ _
     · rename_i fn _;have hx:=uj p (results fn fr.tmps) w #[];generalize (results fn fr.tmps).runT p w #[]=x at hx;obtain⟨r,es⟩:=x;refine s9 ?_;simp only at hx ⊢
       split
       · exact r6 (Nat.le_trans h hx) _ _ _ _ _ _
       · exact trivial
       · exact trivial
theorem Vb {d:Nat}{w:World}(h:d≤w.drawn)(p:Program)(fr:Frame)(cs:List Frame)(dy:Option Dying)(g:Nat):GE d (early p fr cs dy g w):=by
 have hn:∀ w:World,d≤w.drawn→GE d (match w.heap[g]? with
  | some (.pending c elem)=>.go { frame:=fr,callers:=cs,status:=.running,dying:=dy } { w with heap:=w.heap.setIfInBounds g (.cells c elem) }
  | _ => .ended (.stuck "early: the variable does not wait" (fr.pos p)) w) := fun w hw => by
  split
  · exact hw
  · exact trivial
 unfold early;simp only
 repeat' first
  | exact trivial
  | exact hn _ h
  | exact h
  | (rename_i hr;exact hn _ (Nat.le_trans h (xC hr)))
  | (rename_i hr;exact Nat.le_trans h (xC hr))
  | split
theorem jq {d:Nat}{w:World}(h:d≤w.drawn)(p:Program)(b l:Bool)(fr:Frame)(cs:List Frame)(dy:Option Dying)(s:Sem Next):GE d (stepG.apply p l fr cs dy s w):=by
 unfold stepG.apply;have hx:w.drawn≤(rwd ((if l=true then s.runT p w #[] else (s.run p w,#[])).1)).drawn:=by
  split
  · exact uj p s w #[]
  · exact U0 p s w
 generalize (if l=true then s.runT p w #[] else (s.run p w,#[]))=x at hx;obtain⟨r,es⟩:=x;simp only at hx ⊢;have hy:=Nat.le_trans h hx;clear hx h;refine s9 ?_
 repeat' first|exact trivial|exact hy|exact mM hy _ _ _ _ _|exact r5 hy _ _|exact Vb hy _ _ _ _ _|split
theorem TK {d:Nat}{w:World}(h:d≤w.drawn)(p:Program)(l:Bool)(fr:Frame)(cs:List Frame)(dy:Option Dying):GE d (stepG.oper p l fr cs dy w):=by
 unfold stepG.oper
 split
 · exact trivial
 · split<;>exact jq h p true l _ _ _ _
theorem Sl {d:Nat}{w:World}(h:d≤w.drawn)(p:Program)(b l:Bool)(fr:Frame)(cs:List Frame)(dy:Option Dying):GE d (stepG.exec p b l fr cs dy w):=by
 unfold stepG.exec;simp only
 repeat' first
  | exact trivial
  | exact h
  | exact jq h _ true _ _ _ _ _
  | exact TK h _ _ _ _ _
  | exact r6 (Nat.le_trans h (Z8 (by assumption))) _ _ _ _ _ _
  | exact jq (Nat.le_trans h (Z8 (by assumption))) _ true _ _ _ _ _
  | exact Nat.le_trans h (Z8 (by assumption))
  | exact Nat.le_trans h (V4 (by assumption))
  | exact Nat.le_trans h (xC (by assumption))
  | refine s9 ?_
  | split
  | (unfold Option.elim;split)
theorem Wp (p:Program)(b:Bool)(g:Goroutine)(w:World)(l:Bool):GE w.drawn (stepG p b g w l):=by
 unfold stepG;simp only
 split
 · exact Qo (Nat.le_refl _) _ _ _
 · exact Sl (Nat.le_refl _) _ _ _ _ _ _
 · exact Xr (Nat.le_refl _) _ _ _ _ _
theorem lC (p:Program)(rest:Rest)(gs:Array Goroutine)(i:Nat)(g:Goroutine)(cases:Array CommCase)(blocking:Bool)(shape:CommShape){d:Nat}{w:World}(h:d≤w.drawn):SE d (communicate p rest gs i g cases blocking shape w).1:=by
 have hw:∀ w',waitingAt rest cases w=some w'→w'.drawn=w.drawn:=fun w' hw=>by
  unfold waitingAt at hw
  repeat' first|(cases hw;rfl)|(cases hw;done)|split at hw
 unfold communicate;simp only
 repeat' first
  | exact trivial
  | exact h
  | (simp only[SE];first
   | exact h
   | exact Nat.le_trans h (Nat.le_of_eq (hw _ (by assumption)).symm)
   | exact Nat.le_trans h (xC (by assumption))
   | exact Nat.le_trans h (Nat.le_trans (xC (by assumption)) (xC (by assumption))))
  | split
theorem ZY (p:Program)(gs:Array Goroutine)(rest:Rest){d:Nat}{w:World}(h:d≤w.drawn):SE d (look p gs rest w):=by
 unfold look;simp only
 repeat' first
  | exact trivial
  | (simp only[SE];exact Nat.le_trans h (xC (by assumption)))
  | split
theorem Wl {m m':Machine}{op:TimerOp}{v:Value}(h:timerOp m op=.ok (v,m')):m'.world.drawn=m.world.drawn:=by
 have hdr:∀ (w:World) (c:Nat),(drain w c).2.drawn=w.drawn:=fun w c=>by unfold drain;split<;>rfl
 have hre:∀ (m:Machine) (k:Nat) (t:Timer) (a b:Nat),(retime m k t a b).2.world.drawn=m.world.drawn:=fun m k t a b=>by
  unfold retime;simp only
  split
  · exact hdr _ _
  · rfl
 have hnm:∀ (m0:Machine) (var:Addr) (f:Nat→Timer→Value×Machine) (v:Value) (m':Machine),timerOp.named m0 var f=.ok (v,m')→(∀ k t,(f k t).2.world.drawn=m.world.drawn)→m'.world.drawn=m.world.drawn:=fun m0 var f v m' hx hf=>by
  unfold timerOp.named at hx
  split at hx
  · rename_i k _;have h1:=hf k (m0.rest.timers.getD k default);simp only[Except.ok.injEq]at hx;rw[hx]at h1;exact h1
  · cases hx
 unfold timerOp at h
 split at h
 · split at h
   · simp only[Except.ok.injEq,Prod.mk.injEq]at h;obtain⟨_,rfl⟩:=h;rfl
   · split at h
     · split at h
       · cases h
       · simp only[Except.ok.injEq,Prod.mk.injEq]at h;obtain⟨_,rfl⟩:=h;rfl
     · cases h
 · exact hnm _ _ _ _ _ h fun k t=>hre _ _ _ _ _
 · split at h
   · rename_i m1 ho;have:m1.world.drawn=m.world.drawn:=by
      unfold timerOp.opened at ho
      repeat' first|(cases ho;rfl)|(cases ho;done)|split at ho
     exact hnm _ _ _ _ _ h fun k t=>(hre _ _ _ _ _).trans this
   · cases h
 · simp only[Except.ok.injEq,Prod.mk.injEq]at h;obtain⟨_,rfl⟩:=h;rfl
theorem WD (p:Program){d:Nat}{m:Machine}(k:Nat)(h:d≤m.world.drawn):SE d (serve p m k):=by
 unfold serve;simp only
 repeat' first|exact trivial|exact h|split
def ME (d:Nat):Move→Prop
 | .goroutine m _=>d≤m.world.drawn
 | .machine s _=>SE d s
theorem Zv {α β:Type}{p:Program}{r:Sem α}{s:Sem β}{w0 w1 w2:World}{gs:Array Goroutine}{rest:Rest}{t:Nat}{k:α}{n:β}(h1:r.run p w0=.ok k w1)(h2:s.run p (Machine.advanceTo { world:=w1,gs,rest } t).world=.ok n w2):w0.drawn≤w2.drawn :=
 by have h3:=xC h2;exact Nat.le_trans (xC h1) h3
theorem jn (p:Program){d:Nat}{m:Machine}(h:d≤m.world.drawn):ME d (askOn p m):=by
 unfold askOn;simp only
 split
 · exact trivial
 · rename_i k w1 h1;have d1:=Nat.le_trans h (xC h1);clear h1 h
   split
   · exact WD p _ d1
   · repeat' first
      | exact trivial
      | (simp only[ME,SE,Machine.advanceTo];first
       | exact d1
       | exact Nat.le_trans d1 (xC (by assumption))
       | exact Nat.le_trans d1 (Zv (by assumption) (by assumption))
       | exact Nat.le_trans d1 (Nat.le_trans (Zv (by assumption) (by assumption)) (xC (by assumption)))
       | exact Nat.le_trans d1 (Nat.le_trans (xC (by assumption)) (xC (by assumption)))
       | exact Nat.le_trans d1 (Nat.le_trans (xC (by assumption)) (Nat.le_trans (xC (by assumption)) (xC (by assumption)))))
      | split
theorem QQ (p:Program){d:Nat}{m:Machine}(h:d≤m.world.drawn):ME d (ask p m):=by
 unfold ask
 split
 · split
   · exact trivial
   · rename_i w h1;have hl:=ZY p m.gs m.rest (Nat.le_trans h (xC h1))
     split
     · rename_i m' hm;rw[hm]at hl;exact jn p hl
     · exact hl
   · rename_i h1;exact jn p (Nat.le_trans h (xC h1))
 · exact jn p h
theorem TX (p:Program){d:Nat}{m:Machine}(h:d≤m.world.drawn):ME d (move p m):=by
 unfold move
 repeat' first|exact trivial|exact h|exact QQ p h|split
theorem TD (p:Program)(m:Machine)(i:Nat)(b:Bool):SE m.world.drawn (runT p m i b).1:=by
 simp only[runT];generalize m.gs.swapAt! _ _=gg;have hg:=Wp p (i==0) gg.1 m.world b;generalize stepG p _ gg.1 m.world b=s at hg
 cases s with
 | ended o w es=>exact trivial
 | comm g cs bl sh w es=>exact lC _ _ _ _ _ _ _ _ hg
 | go g w es=>exact hg
 | spawn g c w es=>exact hg
 | count g w es=>simp only;split<;>first|exact trivial|exact hg
 | alone g on w es=>exact hg
 | collect g w es=>exact ZY _ _ _ hg
 | watch g w es=>exact hg
 | newcoro g c d w es=>exact hg
 | coroswitch g c e w es =>
  simp only
  repeat' first|exact trivial|exact hg|split
 | timer g op w es =>
  simp only
  split
  · rename_i ht;have:=Wl ht;exact Nat.le_trans hg (Nat.le_of_eq this.symm)
  · repeat' first|exact trivial|exact hg|split
  · exact trivial
  · exact trivial
theorem Tv (p:Program)(m:Machine):SE m.world.drawn (step p m):=by
 unfold step stepT;have h:=TX p (Nat.le_refl m.world.drawn)
 split
 · rename_i m' i hm;rw[hm]at h;have h2:=TD p m' i true;generalize (runT p m' i true).1=s at h2
   cases s with
   | next m2=>exact Nat.le_trans h h2
   | ended o w=>exact trivial
 · rename_i hm;rw[hm]at h;exact h
theorem Zw (p:Program):∀ (n:Nat) (m m':Machine),runN p n m=.next m'→m.world.drawn≤m'.world.drawn
 | 0,m,m',h=>by cases h;exact Nat.le_refl _
 | n+1,m,m',h=>by
  unfold runN at h;have hs:=Tv p m
  split at h
  · rename_i m1 h1;rw[h1]at hs;exact Nat.le_trans hs (Zw p n m1 m' h)
  · rename_i hx;exact absurd h (hx m')
theorem dd {P:Program}{f:FuncId}{args:Array Value}{w:World}{Q:Ending→World→Prop}(h:Calls P f args w Q)(hQ:∀ e w',Q e w'→∃ v,e=.returned v):Calls P f args w fun e w'=>Q e w'∧w.drawn≤w'.drawn:=by
 intro cs;obtain⟨e,w',fr,h1,h2,h3,h4⟩:=h cs;refine⟨e,w',fr,⟨h1,?_⟩,h2,h3,h4⟩;obtain⟨v,rfl⟩:=hQ e w' h1;obtain⟨n,hn⟩:=h2;exact Zw P n _ _ hn
end Go.Proofs.YtefkoljdebekdaaGreatDoor.Dr
/- What is shown by other means, more of it: answers stay. Conditions: those of each lemma. -/
namespace Go.Proofs.YtefkoljdebekdaaGreatDoor.E
open Go.Proofs.Tryz
variable {P:Program}
section
variable {pm:Nat→Nat→PM} {live outs:Nat→Nat→List Nat} {no no2 dr ow:Nat→Bool} {ext:Nat→List V→Option V} {extO extO2:Nat→List V→Heap→Option (V×Heap)} {gh:Nat→Nat→List Gh} {dm:Nat→Nat→Bool}
theorem kz (rec:Rec)(f:Nat)(N:Option Nat)(ops:Array Oper)(o:Oper)(e:Env)(h:Heap):uC P ⟨pm,live,outs,no,dr,ext,extO,ow,gh,dm⟩ rec f N ops o e h=uC P ⟨pm,live,outs,no2,dr,ext,extO2,ow,gh,dm⟩ rec f N ops o e h:=rfl
theorem mK (rec:Rec)(f:Nat)(N:Option Nat)(ops:Array Oper)(o:Oper)(e:Env)(h:Heap):w5 P ⟨pm,live,outs,no,dr,ext,extO,ow,gh,dm⟩ rec f N ops o e h=w5 P ⟨pm,live,outs,no2,dr,ext,extO2,ow,gh,dm⟩ rec f N ops o e h:=rfl
theorem kv (rec:Rec)(f:Nat)(ops:Array Oper):∀ (l:List Oper) (e:Env) (h:Heap),si P ⟨pm,live,outs,no,dr,ext,extO,ow,gh,dm⟩ rec f ops l e h=si P ⟨pm,live,outs,no2,dr,ext,extO2,ow,gh,dm⟩ rec f ops l e h
 | [],e,h=>rfl
 | o::l,e,h=>by
  simp only[si,mK (no2:=no2) (extO2:=extO2) (no:=no) (extO:=extO)]
  cases w5 P ⟨pm,live,outs,no2,dr,ext,extO2,ow,gh,dm⟩ rec f none ops o e h with
  | none=>rfl
  | some x=>exact kv rec f ops l x.1 x.2
theorem mI (rec:Rec)(f:Nat)(ops:Array Oper):∀ (l:List Oper) (e:Env) (h:Heap),wK P ⟨pm,live,outs,no,dr,ext,extO,ow,gh,dm⟩ rec f ops l e h=wK P ⟨pm,live,outs,no2,dr,ext,extO2,ow,gh,dm⟩ rec f ops l e h
 | [],e,h=>rfl
 | o::l,e,h=>by
  simp only[wK,kz (no2:=no2) (extO2:=extO2) (no:=no) (extO:=extO)]
  cases uC P ⟨pm,live,outs,no2,dr,ext,extO2,ow,gh,dm⟩ rec f none ops o e h with
  | none=>rfl
  | some x=>exact mI rec f ops l x.1 x.2
theorem bn (rec:Rec)(f:Nat)(ops:Array Oper):∀ (Ns:List (Option Nat)) (l:List Oper) (e:Env) (h:Heap),evD P ⟨pm,live,outs,no,dr,ext,extO,ow,gh,dm⟩ rec f ops Ns l e h=evD P ⟨pm,live,outs,no2,dr,ext,extO2,ow,gh,dm⟩ rec f ops Ns l e h
 | [],[],e,h=>rfl
 | [],_::_,e,h=>rfl
 | _::_,[],e,h=>rfl
 | N::Ns,o::l,e,h=>by
  simp only[evD,kz (no2:=no2) (extO2:=extO2) (no:=no) (extO:=extO)]
  cases uC P ⟨pm,live,outs,no2,dr,ext,extO2,ow,gh,dm⟩ rec f N ops o e h with
  | none=>rfl
  | some x=>simp only[bn rec f ops Ns l x.1 x.2]
theorem bh (rec:Rec)(f:Nat)(ops:Array Oper):∀ (Ns:List (Option Nat)) (l:List Oper) (e:Env) (h:Heap),evR P ⟨pm,live,outs,no,dr,ext,extO,ow,gh,dm⟩ rec f ops Ns l e h=evR P ⟨pm,live,outs,no2,dr,ext,extO2,ow,gh,dm⟩ rec f ops Ns l e h
 | _,[],e,h=>rfl
 | Ns,o::l,e,h=>by
  simp only[evR,mK (no2:=no2) (extO2:=extO2) (no:=no) (extO:=extO)]
  cases w5 P ⟨pm,live,outs,no2,dr,ext,extO2,ow,gh,dm⟩ rec f (hdN Ns) ops o e h with
  | none=>rfl
  | some x=>simp only[bh rec f ops Ns.tail l x.1 x.2]
theorem nv (f:Nat):∀ (b:Nat) (l:List Oper),vC ⟨pm,live,outs,no,dr,ext,extO,ow,gh,dm⟩ f b l=vC ⟨pm,live,outs,no2,dr,ext,extO2,ow,gh,dm⟩ f b l
 | _,[]=>rfl
 | b,o::l=>by
  simp only[vC,show xr ⟨pm,live,outs,no,dr,ext,extO,ow,gh,dm⟩ f o=xr ⟨pm,live,outs,no2,dr,ext,extO2,ow,gh,dm⟩ f o from rfl,nv f (b+1) l,nv f b l]
theorem mN (f:Nat):∀ (l:List Oper),wF ⟨pm,live,outs,no,dr,ext,extO,ow,gh,dm⟩ f l=wF ⟨pm,live,outs,no2,dr,ext,extO2,ow,gh,dm⟩ f l
 | []=>rfl
 | o::l=>by
  simp only[wF,show xr ⟨pm,live,outs,no,dr,ext,extO,ow,gh,dm⟩ f o=xr ⟨pm,live,outs,no2,dr,ext,extO2,ow,gh,dm⟩ f o from rfl,mN f l]
theorem eZ (rec:Rec)(f:Nat)(ops:Array Oper)(e:Env)(h:Heap):uN P ⟨pm,live,outs,no,dr,ext,extO,ow,gh,dm⟩ rec f ops e h=uN P ⟨pm,live,outs,no2,dr,ext,extO2,ow,gh,dm⟩ rec f ops e h:=by
 unfold uN;rw[bn (no2:=no2) (extO2:=extO2),nv (no2:=no2) (extO2:=extO2),mN (no2:=no2) (extO2:=extO2)];rfl
theorem V7 (rec:Rec)(f:Nat)(kp:Bool)(ops:Array Oper)(e:Env)(h:Heap):evZ P ⟨pm,live,outs,no,dr,ext,extO,ow,gh,dm⟩ rec f kp ops e h=evZ P ⟨pm,live,outs,no2,dr,ext,extO2,ow,gh,dm⟩ rec f kp ops e h:=by
 unfold evZ;rw[bh (no2:=no2) (extO2:=extO2)];rfl
theorem vZ (rec:Rec)(f m:Nat):∀ (c:Code) (p:Nat) (e:Env) (h:Heap),evC P ⟨pm,live,outs,no,dr,ext,extO,ow,gh,dm⟩ rec f m c p e h=evC P ⟨pm,live,outs,no2,dr,ext,extO2,ow,gh,dm⟩ rec f m c p e h
 | .skip,p,e,h=>rfl
 | .exit _,p,e,h=>rfl
 | .ret,p,e,h=>rfl
 | .seq a b, p, e, h => by
  simp only[evC,vZ rec f m a (2*p) e h]
  cases evC P ⟨pm,live,outs,no2,dr,ext,extO2,ow,gh,dm⟩ rec f m a (2*p) e h with
  | none=>rfl
  | some x =>
   obtain⟨x,e',h'⟩:=x
   cases x with
   | normal=>exact vZ rec f m b (2*p+1) e' h'
   | _=>rfl
 | .cond c a b,p,e,h=>by simp only[evC,vZ rec f m a (2*p) e h,vZ rec f m b (2*p+1) e h]
 | .block id c,p,e,h=>by simp only[evC,vZ rec f m c (2*p) e h]
 | .loop _,p,e,h=>rfl
 | .region id ops draw,p,e,h=>by
  simp only[evC,eZ (no2:=no2) (extO2:=extO2) (no:=no) (extO:=extO),V7 (no2:=no2) (extO2:=extO2) (no:=no) (extO:=extO),mI (no2:=no2) (extO2:=extO2) (no:=no) (extO:=extO),kv (no2:=no2) (extO2:=extO2) (no:=no) (extO:=extO)];rfl
 | .rangeFunc _ _ _ _,p,e,h=>rfl
 | .scope _,p,e,h=>rfl
 | .label _,p,e,h=>rfl
 | .goto _,p,e,h=>rfl
 | .refuse _,p,e,h=>rfl
theorem Xu (hn : ∀ f, no2 f = true → no f = true) (hx : ∀ f, no f = true ∨ ∀ args h, extO2 f args h = extO f args h) (ho : ∀ f, no f = true → (∀ args h, extO2 f args h = extO f args h) ∨ ∀ args h, extO f args h = none) {rec rec2 : Rec} (hr : Le rec rec2) :
 Le (step P ⟨pm,live,outs,no,dr,ext,extO,ow,gh,dm⟩ rec) (step P ⟨pm,live,outs,no2,dr,ext,extO2,ow,gh,dm⟩ rec2):=by
 intro req r h;refine (ng req).mono rec rec2 hr r ?_
 cases req with
 | call f args hp =>
  simp only[step]at h ⊢
  cases hxx:ext f args with
  | some v=>rw[hxx]at h;exact h
  | none =>
   rw[hxx]at h;simp only at h ⊢
   cases hf:P.funcs[f]? with
   | none=>rw[hf]at h;cases h
   | some fn =>
    rw[hf]at h;simp only at h ⊢
    cases hb:fn.body with
    | none=>rw[hb]at h;cases h
    | some c =>
     rw[hb]at h;simp only at h ⊢
     split at h
     · cases h
     · rename_i hc;simp only[Bool.or_eq_true,not_or]at hc
       have hc2 : ¬ ((no2 f || fn.name == "runtime.NumGoroutine" || decide (fn.ntmps < args.length)) = true) := by
        simp only[Bool.or_eq_true,not_or];exact⟨⟨fun x=>hc.1.1 (hn f x),hc.1.2⟩,hc.2⟩
       rw[if_neg hc2,← vZ (no:=no) (extO:=extO)];exact h
 | callO gv f args hp =>
  simp only[step]at h ⊢
  by_cases hsame:∀ args h,extO2 f args h=extO f args h
  · rw[hsame]
    cases hxx:extO f args hp with
    | some v=>rw[hxx]at h;exact h
    | none =>
     rw[hxx]at h;simp only at h ⊢
     cases hf:P.funcs[f]? with
     | none=>rw[hf]at h;cases h
     | some fn =>
      rw[hf]at h;simp only at h ⊢
      cases hb:fn.body with
      | none=>rw[hb]at h;cases h
      | some c =>
       rw[hb]at h;simp only at h ⊢
       split at h
       · cases h
       · rename_i hc;simp only[Bool.or_eq_true,not_or]at hc
         have hc2 : ¬ ((no2 f || fn.name == "runtime.NumGoroutine" || decide (fn.ntmps < args.length)) = true) := by
          simp only[Bool.or_eq_true,not_or];exact⟨⟨fun x=>hc.1.1 (hn f x),hc.1.2⟩,hc.2⟩
         rw[if_neg hc2,← vZ (no:=no) (extO:=extO)];exact h
  · exfalso;have hno:no f=true:=(hx f).resolve_right hsame;have hnx:=(ho f hno).resolve_left hsame;rw[hnx]at h;simp only at h
    cases hf:P.funcs[f]? with
    | none=>rw[hf]at h;cases h
    | some fn =>
     rw[hf]at h;simp only at h
     cases hb:fn.body with
     | none=>rw[hb]at h;cases h
     | some c =>
      rw[hb]at h;simp only[hno,Bool.true_or,if_true]at h
      cases h
 | loop f p m vals hp =>
  simp only[step]at h ⊢
  cases hf:P.funcs[f]? with
  | none=>rw[hf]at h;cases h
  | some fn =>
   rw[hf]at h;simp only at h ⊢
   cases hb:fn.body with
   | none=>rw[hb]at h;cases h
   | some c =>
    rw[hb]at h;simp only at h ⊢
    split at h
    · rw[← vZ (no:=no) (extO:=extO)];exact h
    · cases h
theorem Yk (hn:∀ f,no2 f=true→no f=true)(hx:∀ f,no f=true∨∀ args h,extO2 f args h=extO f args h)(ho:∀ f,no f=true→(∀ args h,extO2 f args h=extO f args h)∨∀ args h,extO f args h=none) :
 ∀ n,Le (it P ⟨pm,live,outs,no,dr,ext,extO,ow,gh,dm⟩ n) (it P ⟨pm,live,outs,no2,dr,ext,extO2,ow,gh,dm⟩ n)
 | 0=>fun req r h=>by cases h
 | n+1=>Xu hn hx ho (Yk hn hx ho n)
end
theorem R2 {pol:Pol} {no2:Nat→Bool} {extO2:Nat→List V→Heap→Option (V×Heap)} (hn:∀ f,no2 f=true→pol.no f=true) (hx:∀ f,pol.no f=true∨∀ args h,extO2 f args h=pol.extO f args h) (ho:∀ f,pol.no f=true→(∀ args h,extO2 f args h=pol.extO f args h)∨∀ args h,pol.extO f args h=none)
 {req:Req} {r:w7} (h:EV P pol req=some r):EV P { pol with no:=no2,extO:=extO2 } req=some r:=by
 obtain⟨pm,live,outs,no,dr,ext,extO,ow,gh,dm⟩:=pol;obtain⟨n,hn'⟩:=Tg h;exact RY (Yk hn hx ho n req r hn')
end Go.Proofs.YtefkoljdebekdaaGreatDoor.E
/- The shelf's contract of slices.SortFunc at this program, laid by the kit's own tool. Conditions: none. -/
namespace Go.Proofs
open Go.Proofs.Tryz
open Go.Shelf
def Tryz.pF:Go.Shelf.Ren:=⟨fun|6=>166|15=>207|14=>208|28=>252|29=>253|20=>254|21=>255|22=>256|23=>257|24=>258|25=>259|26=>260|27=>261|46=>293|47=>288|48=>289|49=>294|50=>295|57=>307|n=>n,fun|22=>24|24=>9|25=>99|3=>3|39=>175|0=>0|53=>210|55=>212|4=>4|46=>203|45=>202|50=>207|5=>5|9=>9|66=>232|70=>236|76=>250|77=>251|n=>n,fun|n=>n⟩
theorem Tryz.jM:Go.Proofs.SlLaysF.n6 prog Tryz.pF:={
 mixed:=by kernel_rfl
 f6:=⟨Tryz.f166.name,by decide,Tryz.func166.trans (congrArg some (by kernel_rfl))⟩
 f14:=⟨Tryz.f208.name,by decide,Tryz.func208.trans (congrArg some (by kernel_rfl))⟩
 f15:=Tryz.func207.trans (congrArg some (by kernel_rfl))
 f20:=⟨Tryz.f254.name,by decide,Tryz.func254.trans (congrArg some (by kernel_rfl))⟩
 f21:=⟨Tryz.f255.name,by decide,Tryz.func255.trans (congrArg some (by kernel_rfl))⟩
 f22:=⟨Tryz.f256.name,by decide,Tryz.func256.trans (congrArg some (by kernel_rfl))⟩
 f23:=⟨Tryz.f257.name,by decide,Tryz.func257.trans (congrArg some (by kernel_rfl))⟩
 f24:=⟨Tryz.f258.name,by decide,Tryz.func258.trans (congrArg some (by kernel_rfl))⟩
 f25:=⟨Tryz.f259.name,by decide,Tryz.func259.trans (congrArg some (by kernel_rfl))⟩
 f26:=⟨Tryz.f260.name,by decide,Tryz.func260.trans (congrArg some (by kernel_rfl))⟩
 f27:=⟨Tryz.f261.name,by decide,Tryz.func261.trans (congrArg some (by kernel_rfl))⟩
 f28:=Tryz.func252.trans (congrArg some (by kernel_rfl))
 f29:=Tryz.func253.trans (congrArg some (by kernel_rfl))
 f46:=⟨Tryz.f293.name,by decide,Tryz.func293.trans (congrArg some (by kernel_rfl))⟩
 f47:=Tryz.func288.trans (congrArg some (by kernel_rfl))
 f48:=Tryz.func289.trans (congrArg some (by kernel_rfl))
 f49:=⟨Tryz.f294.name,by decide,Tryz.func294.trans (congrArg some (by kernel_rfl))⟩
 f50:=⟨Tryz.f295.name,by decide,Tryz.func295.trans (congrArg some (by kernel_rfl))⟩
 f57:=⟨Tryz.f307.name,by decide,Tryz.func307.trans (congrArg some (by kernel_rfl))⟩
 t0:=Tryz.underlying0
 a0:=Tryz.isAgg0
 z0:=Tryz.sizeOf0
 v0:=Tryz.zeroValue0
 t3:=Tryz.underlying3
 a3:=Tryz.isAgg3
 z3:=Tryz.sizeOf3
 v3:=Tryz.zeroValue3
 t4:=Tryz.underlying4
 a4:=Tryz.isAgg4
 z4:=Tryz.sizeOf4
 v4:=Tryz.zeroValue4
 t5:=Tryz.underlying5
 a5:=Tryz.isAgg5
 z5:=Tryz.sizeOf5
 v5:=Tryz.zeroValue5
 t9:=Tryz.underlying9
 a9:=Tryz.isAgg9
 z9:=Tryz.sizeOf9
 v9:=Tryz.zeroValue9
 t22:=Tryz.underlying24
 a22:=Tryz.isAgg24
 z22:=Tryz.sizeOf24
 v22:=Tryz.zeroValue24
 a24:=Tryz.isAgg9
 z24:=Tryz.sizeOf9
 t25:=Tryz.underlying99
 a25:=Tryz.isAgg99
 z25:=Tryz.sizeOf99
 v25:=Tryz.zeroValue99
 t39:=Tryz.underlying175
 a39:=Tryz.isAgg175
 z39:=Tryz.sizeOf175
 v39:=Tryz.zeroValue175
 t45:=Tryz.underlying202
 a45:=Tryz.isAgg202
 z45:=Tryz.sizeOf202
 v45:=Tryz.zeroValue202
 t46:=Tryz.underlying203
 a46:=Tryz.isAgg203
 z46:=Tryz.sizeOf203
 v46:=Tryz.zeroValue203
 t50:=Tryz.underlying207
 a50:=Tryz.isAgg207
 z50:=Tryz.sizeOf207
 v50:=Tryz.zeroValue207
 t53:=Tryz.underlying210
 a53:=Tryz.isAgg210
 z53:=Tryz.sizeOf210
 v53:=Tryz.zeroValue210
 t55:=Tryz.underlying212
 a55:=Tryz.isAgg212
 z55:=Tryz.sizeOf212
 v55:=Tryz.zeroValue212
 t66:=Tryz.underlying232
 a66:=Tryz.isAgg232
 z66:=Tryz.sizeOf232
 v66:=Tryz.zeroValue232
 t70:=Tryz.underlying236
 a70:=Tryz.isAgg236
 z70:=Tryz.sizeOf236
 v70:=Tryz.zeroValue236
 t76:=Tryz.underlying250
 a76:=Tryz.isAgg250
 z76:=Tryz.sizeOf250
 v76:=Tryz.zeroValue250
 t77:=Tryz.underlying251
 a77:=Tryz.isAgg251
 z77:=Tryz.sizeOf251
 v77:=Tryz.zeroValue251 }
def Tryz.uD:Go.Shelf.Ren:=⟨fun|6=>166|15=>207|14=>208|28=>252|29=>253|20=>254|21=>255|22=>256|23=>257|24=>258|25=>259|26=>260|27=>261|46=>293|47=>288|48=>289|49=>294|50=>295|57=>307|n=>n,fun|22=>24|24=>9|25=>99|3=>3|39=>175|0=>0|53=>210|55=>212|4=>4|46=>203|45=>202|50=>207|5=>5|9=>9|66=>232|70=>236|76=>250|77=>251|n=>n,fun|n=>n⟩
theorem Tryz.lB:Go.Proofs.SlLaysF0.n6 prog Tryz.uD:={
 mixed:=by kernel_rfl
 f6:=⟨Tryz.f166.name,by decide,Tryz.func166.trans (congrArg some (by kernel_rfl))⟩
 f14:=⟨Tryz.f208.name,by decide,Tryz.func208.trans (congrArg some (by kernel_rfl))⟩
 f15:=Tryz.func207.trans (congrArg some (by kernel_rfl))
 f20:=⟨Tryz.f254.name,by decide,Tryz.func254.trans (congrArg some (by kernel_rfl))⟩
 f21:=⟨Tryz.f255.name,by decide,Tryz.func255.trans (congrArg some (by kernel_rfl))⟩
 f22:=⟨Tryz.f256.name,by decide,Tryz.func256.trans (congrArg some (by kernel_rfl))⟩
 f23:=⟨Tryz.f257.name,by decide,Tryz.func257.trans (congrArg some (by kernel_rfl))⟩
 f24:=⟨Tryz.f258.name,by decide,Tryz.func258.trans (congrArg some (by kernel_rfl))⟩
 f25:=⟨Tryz.f259.name,by decide,Tryz.func259.trans (congrArg some (by kernel_rfl))⟩
 f26:=⟨Tryz.f260.name,by decide,Tryz.func260.trans (congrArg some (by kernel_rfl))⟩
 f27:=⟨Tryz.f261.name,by decide,Tryz.func261.trans (congrArg some (by kernel_rfl))⟩
 f28:=Tryz.func252.trans (congrArg some (by kernel_rfl))
 f29:=Tryz.func253.trans (congrArg some (by kernel_rfl))
 f46:=⟨Tryz.f293.name,by decide,Tryz.func293.trans (congrArg some (by kernel_rfl))⟩
 f47:=Tryz.func288.trans (congrArg some (by kernel_rfl))
 f48:=Tryz.func289.trans (congrArg some (by kernel_rfl))
 f49:=⟨Tryz.f294.name,by decide,Tryz.func294.trans (congrArg some (by kernel_rfl))⟩
 f50:=⟨Tryz.f295.name,by decide,Tryz.func295.trans (congrArg some (by kernel_rfl))⟩
 f57:=⟨Tryz.f307.name,by decide,Tryz.func307.trans (congrArg some (by kernel_rfl))⟩
 t0:=Tryz.underlying0
 a0:=Tryz.isAgg0
 z0:=Tryz.sizeOf0
 v0:=Tryz.zeroValue0
 t3:=Tryz.underlying3
 a3:=Tryz.isAgg3
 z3:=Tryz.sizeOf3
 v3:=Tryz.zeroValue3
 t4:=Tryz.underlying4
 a4:=Tryz.isAgg4
 z4:=Tryz.sizeOf4
 v4:=Tryz.zeroValue4
 t5:=Tryz.underlying5
 a5:=Tryz.isAgg5
 z5:=Tryz.sizeOf5
 v5:=Tryz.zeroValue5
 t9:=Tryz.underlying9
 a9:=Tryz.isAgg9
 z9:=Tryz.sizeOf9
 v9:=Tryz.zeroValue9
 t22:=Tryz.underlying24
 a22:=Tryz.isAgg24
 z22:=Tryz.sizeOf24
 v22:=Tryz.zeroValue24
 t25:=Tryz.underlying99
 a25:=Tryz.isAgg99
 z25:=Tryz.sizeOf99
 v25:=Tryz.zeroValue99
 t39:=Tryz.underlying175
 a39:=Tryz.isAgg175
 z39:=Tryz.sizeOf175
 v39:=Tryz.zeroValue175
 t45:=Tryz.underlying202
 a45:=Tryz.isAgg202
 z45:=Tryz.sizeOf202
 v45:=Tryz.zeroValue202
 t46:=Tryz.underlying203
 a46:=Tryz.isAgg203
 z46:=Tryz.sizeOf203
 v46:=Tryz.zeroValue203
 t50:=Tryz.underlying207
 a50:=Tryz.isAgg207
 z50:=Tryz.sizeOf207
 v50:=Tryz.zeroValue207
 t53:=Tryz.underlying210
 a53:=Tryz.isAgg210
 z53:=Tryz.sizeOf210
 v53:=Tryz.zeroValue210
 t55:=Tryz.underlying212
 a55:=Tryz.isAgg212
 z55:=Tryz.sizeOf212
 v55:=Tryz.zeroValue212
 t66:=Tryz.underlying232
 a66:=Tryz.isAgg232
 z66:=Tryz.sizeOf232
 v66:=Tryz.zeroValue232
 t70:=Tryz.underlying236
 a70:=Tryz.isAgg236
 z70:=Tryz.sizeOf236
 v70:=Tryz.zeroValue236
 t76:=Tryz.underlying250
 a76:=Tryz.isAgg250
 z76:=Tryz.sizeOf250
 v76:=Tryz.zeroValue250
 t77:=Tryz.underlying251
 a77:=Tryz.isAgg251
 z77:=Tryz.sizeOf251
 v77:=Tryz.zeroValue251 }
end Go.Proofs

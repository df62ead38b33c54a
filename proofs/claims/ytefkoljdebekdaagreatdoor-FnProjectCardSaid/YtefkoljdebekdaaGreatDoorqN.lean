/- Joined: K26 K37 K38 J12 J13 V16 K39 K40 J14 V17 V18. Conditions: those of each lemma. -/
import Derived.Test.YtefkoljdebekdaaGreatDoorqL
import Derived.Test.YtefkoljdebekdaaGreatDoorqM
import Derived.Test.YtefkoljdebekdaaGreatDoorqJ
set_option linter.unusedVariables false
set_option linter.unusedSimpArgs false
set_option maxRecDepth 100000
namespace Go.Proofs.YtefkoljdebekdaaGreatDoor
open E
def snS (l:List Str)(s:Str):List Str:=l++[s]
theorem pg (add:List Str→Str→List Str)(ps:List z1)(n:Nat)(out:List Str):yi add ps n out []=out:=by cases n<;>rfl
theorem Si {l:List Str}{s:Str}(h:yG l s=false):(xI l s).length=l.length+1:=by
 rw[(nS l s h).length_eq];simp
theorem GB.zn {g:zw}(hB:GB g){p:z1}(hp:p∈g.packs):p.zn.length≤1048576:=by
 obtain⟨_,_,h3⟩:=hB.len
 have:=h3 p hp
 simp only[z1.y6]at this;omega
theorem tQ (ps:List z1):∀ (n:Nat) (out w:List Str),(yi snS ps n out w).length≤out.length+tF ps out
 | 0,out,w=>by rw[yi];omega
 | n+1,out,[]=>by rw[pg];omega
 | n + 1, out, k :: w => by
  rw[yi]
  cases hf:yS ps k with
  | none=>exact tQ ps n out w
  | some p =>
   obtain⟨hp,hkp,_⟩:=wg hf
   simp only
   cases hc:yG out k with
   | true=>exact tQ ps n out w
   | false =>
    have h1:=sE k out (out++[k]) (nO out k) hc ps p hp hkp
    have h2:=tQ ps n (snS out k) (w++p.zn)
    rw[cond_false]
    unfold snS at h2 ⊢
    simp only[List.length_append,List.length_cons,List.length_nil]at h2
    omega
theorem Wk (g:zw)(hB:GB g):∀ (n:Nat) (out w:List Str) (es:List (List T)) (m off len:Nat) (cap cap2:Option Nat),w.length+muS g.packs out≤n→n≤4194304→m=out.length→m+tF g.packs out≤1048576→len=w.length→es.drop off=strs w→off+len=es.length→∃ cap',
 EV Tryz.prog pol (.loop 103 60 0 [.ptr 0 0 0,.sl 1 0 m cap,.sl 2 off len cap2] [.vs 2 [g.enc.map .t],.ts 1 (strs out),.ts 1 es])
  = some (.loop (.exit 0) [.sl 0 0 (yi snS g.packs n out w).length cap'] [.ts 1 (strs (yi snS g.packs n out w))])
 | n,out,[],es,m,off,len,cap,cap2,hn,hN,hm,hk,hl,hd,ho=>by
  have c:decide ((len:Int) > 0)=false:=by rw[hl];rfl
  refine⟨cap,?_⟩
  rw[pg]
  clear hB
  obtain⟨top,packs⟩:=g
  simp only[zw.enc,List.map_cons,List.map_nil]
  rw[← hm]
  refine zo Tryz.func103 rfl rfl ?_
  simp (disch:=((try simp only[LL]);omega)) only[↓GO,↓DRW,GA,GX,ren,zk,za,refs,z8,cst,zr,isC,bin,una,z7,zd,blt,asArg,zg,zc,zf,z6,E.mkS,unN,ze,zm,zb,GS,simprocAttr,GZ,c,zA]
 | 0,out,k::w,es,m,off,len,cap,cap2,hn,hN,hm,hk,hl,hd,ho=>by simp at hn
 | n + 1, out, k :: w, es, m, off, len, cap, cap2, hn, hN, hm, hk, hl, hd, ho => by
  have c:decide ((len:Int) > 0)=true:=by rw[hl];simp
  have hoff:es[off]? = some [.str k]:=by
   have:(es.drop off)[0]? = some [.str k]:=by rw[hd];rfl
   simpa using this
  have hd1:es.drop (off+1)=strs w:=by
   rw[← List.drop_drop,hd];rfl
  have hl1:len - 1=w.length:=by rw[hl];rfl
  have hl2:1≤len:=by rw[hl];simp
  have hl3:(1:Int)≤(len:Int):=by omega
  have hsl:(strs out).length=m:=by rw[zi,hm]
  have htk:(strs out).take m=strs out:=List.take_of_length_le (by omega)
  have hml:m≤1048576:=by omega
  have hll:len≤4194304:=by simp only[List.length_cons]at hl hn;omega
  have d1:=ev g k hB
  have d2:=Nj out (by omega) k
  simp only[List.length_cons]at hn
  rw[yi]
  cases hf:yS g.packs k with
  | none =>
   rw[oE hf]at d1
   have c2:decide ((-1:Int)≥0)=false:=rfl
   simp only[ixI]at d1
   obtain⟨cap',IH⟩:=Wk g hB n out w es m (off+1) (len - 1) cap (cap2.map (· - 1)) (by omega) (by omega) hm hk hl1 hd1 (by omega)
   refine⟨cap',?_⟩
   simp only
   clear hB hf
   obtain⟨top,packs⟩:=g
   simp only[zw.enc,List.map_cons,List.map_nil]at d1 IH ⊢
   generalize yi snS packs n out w=Z at *
   refine zo Tryz.func103 rfl rfl ?_
   simp (disch:=((try simp only[LL]);omega)) only[↓GO,↓DRW,GA,GX,ren,zk,za,refs,z8,cst,zr,isC,bin,una,z7,zd,blt,asArg,zg,zc,zf,z6,E.mkS,unN,ze,zm,zb,GS,simprocAttr,GZ,c,c2,hoff,d1,zA,IH]
  | some p =>
   obtain⟨hp,hkp,i,hi,hpi⟩:=wg hf
   rw[hi]at d1
   have c2:decide ((i:Int)≥0)=true:=by simp
   have hnl:=hB.zn hp
   have hget:(z1.zh g.packs)[i]? = some p.enc:=by unfold z1.zh;rw[List.getElem?_map,hpi];rfl
   simp only
   cases hc:yG out k with
   | true =>
    rw[hc]at d2
    obtain⟨cap',IH⟩:=Wk g hB n out w es m (off+1) (len - 1) cap (cap2.map (· - 1)) (by omega) (by omega) hm hk hl1 hd1 (by omega)
    refine⟨cap',?_⟩
    rw[cond_true]
    clear hB hf
    obtain⟨top,packs⟩:=g
    simp only[zw.enc,List.map_cons,List.map_nil,ixI]at d1 IH ⊢
    generalize yi snS packs n out w=Z at *
    refine zo Tryz.func103 rfl rfl ?_
    simp (disch:=((try simp only[LL]);omega)) only[↓GO,↓DRW,GA,GX,ren,zk,za,refs,z8,cst,zr,isC,bin,una,z7,zd,blt,asArg,zg,zc,zf,z6,E.mkS,unN,ze,zm,zb,GS,simprocAttr,GZ,c,c2,hoff,d1,d2,htk,zA,IH]
   | false =>
    rw[hc]at d2
    have h1:=ov k out (out++[k]) (nO out k) hc g.packs p hp hkp
    have h2:=sE k out (out++[k]) (nO out k) hc g.packs p hp hkp
    obtain⟨cap',IH⟩:=Wk g hB n (out++[k]) (w++p.zn) (strs w++strs p.zn) (m+1) 0 (w.length+p.zn.length) none none (by rw[List.length_append];omega) (by omega) (by simp[hm]) (by omega) (by simp) (by simp[strs]) (by rw[List.length_append,zi,zi];omega)
    have ho1:off+1+w.length=es.length:=by omega
    refine⟨cap',?_⟩
    rw[cond_false,show snS out k=out++[k] from rfl]
    rw[show strs (out++[k])=strs out++[[.str k]] by simp[strs]]at IH
    clear hB hf h1 h2 hp hi hpi
    obtain⟨top,packs⟩:=g
    obtain⟨name,version,source,sums,dev,zn⟩:=p
    simp only[zw.enc,z1.enc,List.map_cons,List.map_nil,ixI]at d1 hget IH hnl ⊢
    generalize yi snS packs n (out++[k]) (w++zn)=Z at *
    refine zo Tryz.func103 rfl rfl ?_
    simp (disch:=((try simp only[LL]);omega)) only[↓GO,↓DRW,GA,GX,ren,zk,za,refs,z8,cst,zr,isC,bin,una,z7,zd,blt,asArg,zg,zc,zf,z6,E.mkS,unN,ze,zm,zb,GS,simprocAttr,GZ,c,c2,hoff,d1,d2,htk,hget,hsl,hd1,hl1,ho1,zi,zA,IH,ya]
theorem N5 (g:zw)(hB:GB g)(w:List Str)(hw:w.length≤1048576)(hg:zO g=true):zu (EV Tryz.prog pol) 103 [.agg (g.enc.map .t),.t (.list 1 (strs w))]=some (.t (.list 1 (strs (zV g.packs w)))):=by
 have d1:=tg g hB
 rw[hg]at d1
 have d2:=si (strs w) (by rw[zi];omega)
 rw[zi]at d2
 have h1:=kR g.packs
 have h2:=hB
 unfold GB zw.y6 at h2
 have h3:tF g.packs []≤g.packs.length:=List.countP_le_length
 have h4:=hB.len
 obtain⟨cap,L⟩:=Wk g hB (w.length+muS g.packs []) [] w (strs w) 0 0 w.length (some 0) none (Nat.le_refl _) (by omega) rfl (by omega) rfl rfl (by rw[zi];omega)
 have e:vy (yi snS g.packs (w.length+muS g.packs []) [] w)=zV g.packs w:=lJ g.packs _ w
 have hlen:(yi snS g.packs (w.length+muS g.packs []) [] w).length≤1073741824:=by
  have:=tQ g.packs (w.length+muS g.packs []) [] w
  simp only[List.length_nil]at this
  omega
 have d3:=NZ _ hlen _ rfl cap
 rw[e]at d3
 have e2:(yi snS g.packs (w.length+muS g.packs []) [] w).length=(zV g.packs w).length:=by rw[← e,nk]
 rw[e2]at L d3
 have ht:(strs (zV g.packs w)).take (zV g.packs w).length=strs (zV g.packs w):=by rw[← zi (zV g.packs w)];simp
 rw[show strs []=[] from rfl]at L
 clear hB h1 h2 h3 h4 e e2 hlen
 obtain⟨top,packs⟩:=g
 simp only[zw.enc,List.map_cons,List.map_nil]at d1 d3 ht L ⊢
 generalize zV packs w=Z at *
 generalize yi snS packs (w.length+muS packs []) [] w=Y at *
 apply zx
 refine zy rfl Tryz.func103 rfl (by kernel_rfl) ?_
 unfold Tryz.f103
 simp (disch:=((try simp only[LL]);omega)) only[↓GO,↓DRW,GA,GX,ren,zk,za,refs,z8,cst,zr,isC,bin,una,z7,zd,blt,asArg,zg,zc,zf,z6,E.mkS,unN,ze,zm,zb,GS,simprocAttr,GZ,d1,d2,d3,L,ht,zA]
theorem Wj (g:zw)(hB:GB g)(hg:zO g=true):∀ (n:Nat) (out w:List Str) (es:List (List T)) (m off len:Nat) (cap cap2:Option Nat),w.length+muS g.packs out≤n→n≤4194304→m=out.length→m+tF g.packs out≤1048576→len=w.length→es.drop off=strs w→off+len=es.length→∃ cap',
 EV Tryz.prog pol (.loop 118 60 0 [.ptr 0 0 0,.sl 1 0 m cap,.sl 2 off len cap2] [.vs 2 [g.enc.map .t],.ts 1 (strs out),.ts 1 es])
  = some (.loop (.exit 0) [.sl 0 0 (yi xI g.packs n out w).length cap'] [.ts 1 (strs (yi xI g.packs n out w))])
 | n,out,[],es,m,off,len,cap,cap2,hn,hN,hm,hk,hl,hd,ho=>by
  have c:decide ((len:Int) > 0)=false:=by rw[hl];rfl
  refine⟨cap,?_⟩
  rw[pg]
  clear hB hg
  obtain⟨top,packs⟩:=g
  simp only[zw.enc,List.map_cons,List.map_nil]
  rw[← hm]
  refine zo Tryz.func118 rfl rfl ?_
  simp (disch:=((try simp only[LL]);omega)) only[↓GO,↓DRW,GA,GX,ren,zk,za,refs,z8,cst,zr,isC,bin,una,z7,zd,blt,asArg,zg,zc,zf,z6,E.mkS,unN,ze,zm,zb,GS,simprocAttr,GZ,c,zA]
 | 0,out,k::w,es,m,off,len,cap,cap2,hn,hN,hm,hk,hl,hd,ho=>by simp at hn
 | n + 1, out, k :: w, es, m, off, len, cap, cap2, hn, hN, hm, hk, hl, hd, ho => by
  have c:decide ((len:Int) > 0)=true:=by rw[hl];simp
  have hoff:es[off]? = some [.str k]:=by
   have:(es.drop off)[0]? = some [.str k]:=by rw[hd];rfl
   simpa using this
  have hd1:es.drop (off+1)=strs w:=by
   rw[← List.drop_drop,hd];rfl
  have hl1:len - 1=w.length:=by rw[hl];rfl
  have hl2:1≤len:=by rw[hl];simp
  have hl3:(1:Int)≤(len:Int):=by omega
  have hsl:(strs out).length=m:=by rw[zi,hm]
  have htk:(strs out).take m=strs out:=List.take_of_length_le (by omega)
  have hml:m≤1048576:=by omega
  have hll:len≤4194304:=by simp only[List.length_cons]at hl hn;omega
  have d0:=pT g hB
  rw[hg]at d0
  have d1:=ln g k hB
  have d2:=Ws out (by omega) k
  simp only[List.length_cons]at hn
  rw[yi]
  cases hf:yS g.packs k with
  | none =>
   rw[oE hf]at d1
   have c2:decide ((-1:Int)<0)=true:=rfl
   simp only[ixI]at d1
   obtain⟨cap',IH⟩:=Wj g hB hg n out w es m (off+1) (len - 1) cap (cap2.map (· - 1)) (by omega) (by omega) hm hk hl1 hd1 (by omega)
   refine⟨cap',?_⟩
   simp only
   clear hB hf hg
   obtain⟨top,packs⟩:=g
   simp only[zw.enc,List.map_cons,List.map_nil]at d0 d1 IH ⊢
   generalize yi xI packs n out w=Z at *
   refine zo Tryz.func118 rfl rfl ?_
   simp (disch:=((try simp only[LL]);omega)) only[↓GO,↓DRW,GA,GX,ren,zk,za,refs,z8,cst,zr,isC,bin,una,z7,zd,blt,asArg,zg,zc,zf,z6,E.mkS,unN,ze,zm,zb,GS,simprocAttr,GZ,c,c2,hoff,d0,d1,zA,IH]
  | some p =>
   obtain⟨hp,hkp,i,hi,hpi⟩:=wg hf
   rw[hi]at d1
   have c2:decide ((i:Int)<0)=false:=by simp
   have hnl:=hB.zn hp
   have hget:(z1.zh g.packs)[i]? = some p.enc:=by unfold z1.zh;rw[List.getElem?_map,hpi];rfl
   simp only
   cases hc:yG out k with
   | true =>
    rw[hc]at d2
    obtain⟨cap',IH⟩:=Wj g hB hg n out w es m (off+1) (len - 1) cap (cap2.map (· - 1)) (by omega) (by omega) hm hk hl1 hd1 (by omega)
    refine⟨cap',?_⟩
    rw[cond_true]
    clear hB hf hg
    obtain⟨top,packs⟩:=g
    simp only[zw.enc,List.map_cons,List.map_nil,ixI]at d0 d1 IH ⊢
    generalize yi xI packs n out w=Z at *
    refine zo Tryz.func118 rfl rfl ?_
    simp (disch:=((try simp only[LL]);omega)) only[↓GO,↓DRW,GA,GX,ren,zk,za,refs,z8,cst,zr,isC,bin,una,z7,zd,blt,asArg,zg,zc,zf,z6,E.mkS,unN,ze,zm,zb,GS,simprocAttr,GZ,c,c2,hoff,d0,d1,d2,htk,zA,IH]
   | false =>
    rw[hc]at d2
    have h1:=ov k out (xI out k) (oH out k) hc g.packs p hp hkp
    have h2:=sE k out (xI out k) (oH out k) hc g.packs p hp hkp
    have d3:=Ml out (by omega) k m hm cap (PI hc)
    obtain⟨cap',IH⟩:=Wj g hB hg n (xI out k) (w++p.zn) (strs w++strs p.zn) (m+1) 0 (w.length+p.zn.length) none none (by rw[List.length_append];omega) (by omega) (by rw[Si hc,hm]) (by omega) (by simp) (by simp[strs]) (by rw[List.length_append,zi,zi];omega)
    have ho1:off+1+w.length=es.length:=by omega
    refine⟨cap',?_⟩
    rw[cond_false]
    clear hB hf hg h1 h2 hp hi hpi
    obtain⟨top,packs⟩:=g
    obtain⟨name,version,source,sums,dev,zn⟩:=p
    simp only[zw.enc,z1.enc,List.map_cons,List.map_nil,ixI]at d0 d1 hget IH hnl ⊢
    generalize yi xI packs n (xI out k) (w++zn)=Z at *
    generalize xI out k=out' at *
    refine zo Tryz.func118 rfl rfl ?_
    simp (disch:=((try simp only[LL]);omega)) only[↓GO,↓DRW,GA,GX,ren,zk,za,refs,z8,cst,zr,isC,bin,una,z7,zd,blt,asArg,zg,zc,zf,z6,E.mkS,unN,ze,zm,zb,GS,simprocAttr,GZ,c,c2,hoff,d0,d1,d2,d3,hget,hsl,htk,hd1,hl1,ho1,zi,zA,IH,ya]
theorem c_reR (g:zw)(hB:GB g)(w:List Str)(hw:w.length≤1048576)(hg:zO g=true):zu (EV Tryz.prog pol) 118 [.agg (g.enc.map .t),.t (.list 1 (strs w))]=some (.t (.list 1 (strs (zV g.packs w)))):=by
 have h1:=kR g.packs
 have h2:=hB
 unfold GB zw.y6 at h2
 have h3:tF g.packs []≤g.packs.length:=List.countP_le_length
 have h4:=hB.len
 obtain⟨cap,L⟩:=Wj g hB hg (w.length+muS g.packs []) [] w (strs w) 0 0 w.length (some 0) none (Nat.le_refl _) (by omega) rfl (by omega) rfl rfl (by rw[zi];omega)
 have e:yi xI g.packs (w.length+muS g.packs []) [] w=zV g.packs w:=rfl
 rw[e]at L
 have ht:(strs (zV g.packs w)).take (zV g.packs w).length=strs (zV g.packs w):=by rw[← zi (zV g.packs w)];simp
 rw[show strs []=[] from rfl]at L
 clear hB h1 h2 h3 h4 e hg
 obtain⟨top,packs⟩:=g
 simp only[zw.enc,List.map_cons,List.map_nil]at ht L ⊢
 generalize zV packs w=Z at *
 apply zx
 refine zy rfl Tryz.func118 rfl (by kernel_rfl) ?_
 unfold Tryz.f118
 simp (disch:=((try simp only[LL]);omega)) only[↓GO,↓DRW,GA,GX,ren,zk,za,refs,z8,cst,zr,isC,bin,una,z7,zd,blt,asArg,zg,zc,zf,z6,E.mkS,unN,ze,zm,zb,GS,simprocAttr,GZ,L,ht,zi,List.nil_append,Nat.zero_add,zA,ya]
theorem Ql (keys:List Str)(hk:keys.length≤1048576)(top:List Str)(hl:top.length≤1048576)(cs:List z1):∀ (rest pre acc:List Str) (m:Nat),top=pre++rest→m=acc.length→m+rest.length≤1073741824 →
 EV Tryz.prog pol (.loop 75 58 0 [.t (.list 1 (strs keys)),.ptr 0 0 0,.ptr 1 0 0,.ptr 2 0 0,.t (.int .i64 (pre.length:Int))] [.vs 2 [[.t (.list 1 (strs top)),.t (.list 6 (z1.zh cs))]],.vs 2 [zG],.vs 2 [[.sl 3 0 m none,.sl 4 0 0 none]],.ts 1 (strs acc),.ts 6 []])
  = some (.loop (.exit 0) [.t (.list 1 (strs keys)),.ptr 0 0 0,.ptr 1 0 0,.ptr 2 0 0] [.vs 2 [[.t (.list 1 (strs top)),.t (.list 6 (z1.zh cs))]],.vs 2 [zG],.vs 2 [[.sl 3 0 (acc++rest.filter (yG keys)).length none,.sl 4 0 0 none]],.ts 1 (strs (acc++rest.filter (yG keys))),.ts 6 []])
 | [],pre,acc,m,h,hm,hmM=>by
  have c:decide ((pre.length:Int)<(top.length:Int))=false:=by simp[h]
  rw[List.filter_nil,List.append_nil,← hm]
  simp only[zG]
  refine zo Tryz.func75 rfl rfl ?_
  simp (disch:=((try simp only[LL]);omega)) only[↓GO,↓DRW,GA,GX,ren,zk,za,refs,z8,cst,zr,isC,bin,una,z7,zd,blt,asArg,zg,zc,zf,z6,E.mkS,unN,ze,zm,zb,GS,simprocAttr,GZ,c,zi,zA]
 | x :: rest, pre, acc, m, h, hm, hmM => by
  have c:decide ((pre.length:Int)<(top.length:Int))=true:=by simp[h];omega
  have c0:decide ((0:Int)≤(pre.length:Int))=true:=by simp
  have hget:(strs top)[pre.length]? = some [.str x]:=wX (by rw[h];simp)
  have hlen:pre.length+rest.length+1≤top.length:=by rw[h];simp;omega
  have hsl:(strs acc).length=m:=by rw[zi,hm]
  simp only[List.length_cons]at hmM
  have d1:=Ws keys hk x
  rw[List.filter_cons]
  cases q:yG keys x with
  | true =>
   rw[q]at d1
   have IH:=Ql keys hk top hl cs rest (pre++[x]) (acc++[x]) (m+1) (by rw[h];simp) (by simp[hm]) (by omega)
   rw[show ((pre++[x]).length:Int)=(pre.length:Int)+1 by simp,show strs (acc++[x])=strs acc++[[.str x]] by simp[strs],List.append_assoc,show [x]++rest.filter (yG keys)=x::rest.filter (yG keys) from rfl]at IH
   simp only[if_true,zG]at IH ⊢
   clear h hk
   generalize acc++x::rest.filter (yG keys)=Z at *
   refine zo Tryz.func75 rfl rfl ?_
   simp (disch:=((try simp only[LL]);omega)) only[↓GO,↓DRW,GA,GX,ren,zk,za,refs,z8,cst,zr,isC,bin,una,z7,zd,blt,asArg,zg,zc,zf,z6,E.mkS,unN,ze,zm,zb,GS,simprocAttr,GZ,c,c0,zi,hget,d1,zq,hsl,zA,IH,ya]
   refine zU (by kernel_rfl) ?_
   first | exact IH | simp (disch:=((try simp only[LL]);omega)) only[↓GO,↓DRW,GA,GX,ren,zk,za,refs,z8,cst,zr,isC,bin,una,z7,zd,blt,asArg,zg,zc,zf,z6,E.mkS,unN,ze,zm,zb,GS,simprocAttr,GZ,IH,zq,zA]
  | false =>
   rw[q]at d1
   have IH:=Ql keys hk top hl cs rest (pre++[x]) acc m (by rw[h];simp) hm (by omega)
   rw[show ((pre++[x]).length:Int)=(pre.length:Int)+1 by simp]at IH
   simp only[Bool.false_eq_true,if_false,zG]at IH ⊢
   clear h hk
   generalize acc++rest.filter (yG keys)=Z at *
   refine zo Tryz.func75 rfl rfl ?_
   simp (disch:=((try simp only[LL]);omega)) only[↓GO,↓DRW,GA,GX,ren,zk,za,refs,z8,cst,zr,isC,bin,una,z7,zd,blt,asArg,zg,zc,zf,z6,E.mkS,unN,ze,zm,zb,GS,simprocAttr,GZ,c,c0,zi,hget,d1,zq,hsl,zA,IH,ya]
theorem Qn (keys:List Str)(hk:keys.length≤1048576)(gt gp:T)(cs:List z1)(hgp:gp=.list 6 (z1.zh cs))(p:z1)(hnl:p.zn.length≤1048576)(i:Nat)(hi:cs[i]? = some p)(e1 e2 e3 e4 e5:T)(mt mp:Nat)(A B:List (List T)):∀ (rest pre acc:List Str) (m:Nat) (cap:Option Nat),p.zn=pre++rest→m=acc.length→m+rest.length≤1073741824→∃ cap',
 EV Tryz.prog pol (.loop 75 125242 0 [.t (.list 1 (strs keys)),.ptr 0 0 0,.ptr 1 0 0,.ptr 2 0 0,.t (.int .i64 (i:Int)),.ptr 3 0 0,.t (.int .i64 (pre.length:Int))] [.vs 2 [[.t gt,.t gp]],.vs 2 [zG],.vs 2 [[.sl 4 0 mt none,.sl 5 0 mp none]],.vs 6 [[.t e1,.t e2,.t e3,.t e4,.t e5,.sl 6 0 m cap]],.ts 1 A,.ts 6 B,.ts 1 (strs acc)])
  = some (.loop (.exit 4) [.t (.list 1 (strs keys)),.ptr 0 0 0,.ptr 1 0 0,.ptr 2 0 0,.t (.int .i64 (i:Int)),.ptr 3 0 0] [.vs 2 [[.t gt,.t gp]],.vs 2 [zG],.vs 2 [[.sl 4 0 mt none,.sl 5 0 mp none]],.vs 6 [[.t e1,.t e2,.t e3,.t e4,.t e5,.sl 6 0 (acc++rest.filter (yG keys)).length cap']],.ts 1 A,.ts 6 B,.ts 1 (strs (acc++rest.filter (yG keys)))])
 | [],pre,acc,m,cap,h,hm,hmM=>by
  have c:decide ((pre.length:Int)<(p.zn.length:Int))=false:=by simp[h]
  have ci:decide ((0:Int)≤(i:Int))=true:=by simp
  have hpi:(z1.zh cs)[i]? = some p.enc:=by unfold z1.zh;rw[List.getElem?_map,hi];rfl
  have hil:i<cs.length:=by have:=List.getElem?_eq_some_iff.1 hi;exact this.1
  refine⟨cap,?_⟩
  rw[List.filter_nil,List.append_nil,← hm]
  clear h hi hk
  obtain⟨name,version,source,sums,dev,zn⟩:=p
  simp only[z1.enc,zG]at hpi c ⊢
  subst hgp
  refine zo Tryz.func75 rfl rfl ?_
  simp (disch:=((try simp only[LL]);omega)) only[↓GO,↓DRW,GA,GX,ren,zk,za,refs,z8,cst,zr,isC,bin,una,z7,zd,blt,asArg,zg,zc,zf,z6,E.mkS,unN,ze,zm,zb,GS,simprocAttr,GZ,c,ci,zi,hpi,zA]
 | x :: rest, pre, acc, m, cap, h, hm, hmM => by
  have c:decide ((pre.length:Int)<(p.zn.length:Int))=true:=by simp[h];omega
  have c0:decide ((0:Int)≤(pre.length:Int))=true:=by simp
  have ci:decide ((0:Int)≤(i:Int))=true:=by simp
  have hpi:(z1.zh cs)[i]? = some p.enc:=by unfold z1.zh;rw[List.getElem?_map,hi];rfl
  have hget:(strs p.zn)[pre.length]? = some [.str x]:=wX (by rw[h];simp)
  have hlen:pre.length+rest.length+1≤p.zn.length:=by rw[h];simp;omega
  have hsl:(strs acc).length=m:=by rw[zi,hm]
  simp only[List.length_cons]at hmM
  have d1:=Ws keys hk x
  rw[List.filter_cons]
  cases q:yG keys x with
  | true =>
   rw[q]at d1
   obtain⟨cap',IH⟩:=Qn keys hk gt gp cs hgp p hnl i hi e1 e2 e3 e4 e5 mt mp A B rest (pre++[x]) (acc++[x]) (m+1) none (by rw[h];simp) (by simp[hm]) (by omega)
   rw[show ((pre++[x]).length:Int)=(pre.length:Int)+1 by simp,show strs (acc++[x])=strs acc++[[.str x]] by simp[strs],List.append_assoc,show [x]++rest.filter (yG keys)=x::rest.filter (yG keys) from rfl]at IH
   simp only[if_true,zG]at IH ⊢
   refine⟨cap',?_⟩
   clear h hk hi
   generalize acc++x::rest.filter (yG keys)=Z at *
   obtain⟨name,version,source,sums,dev,zn⟩:=p
   simp only[z1.enc]at hpi c hget hlen hnl ⊢
   subst hgp
   refine zo Tryz.func75 rfl rfl ?_
   simp (disch:=((try simp only[LL]);omega)) only[↓GO,↓DRW,GA,GX,ren,zk,za,refs,z8,cst,zr,isC,bin,una,z7,zd,blt,asArg,zg,zc,zf,z6,E.mkS,unN,ze,zm,zb,GS,simprocAttr,GZ,c,c0,ci,zi,hget,hpi,d1,zq,hsl,zA,IH,ya]
   refine zU (by kernel_rfl) ?_
   first | exact IH | simp (disch:=((try simp only[LL]);omega)) only[↓GO,↓DRW,GA,GX,ren,zk,za,refs,z8,cst,zr,isC,bin,una,z7,zd,blt,asArg,zg,zc,zf,z6,E.mkS,unN,ze,zm,zb,GS,simprocAttr,GZ,IH,zq,zA]
  | false =>
   rw[q]at d1
   obtain⟨cap',IH⟩:=Qn keys hk gt gp cs hgp p hnl i hi e1 e2 e3 e4 e5 mt mp A B rest (pre++[x]) acc m cap (by rw[h];simp) hm (by omega)
   rw[show ((pre++[x]).length:Int)=(pre.length:Int)+1 by simp]at IH
   simp only[Bool.false_eq_true,if_false,zG]at IH ⊢
   refine⟨cap',?_⟩
   clear h hk hi
   generalize acc++rest.filter (yG keys)=Z at *
   obtain⟨name,version,source,sums,dev,zn⟩:=p
   simp only[z1.enc]at hpi c hget hlen hnl ⊢
   subst hgp
   refine zo Tryz.func75 rfl rfl ?_
   simp (disch:=((try simp only[LL]);omega)) only[↓GO,↓DRW,GA,GX,ren,zk,za,refs,z8,cst,zr,isC,bin,una,z7,zd,blt,asArg,zg,zc,zf,z6,E.mkS,unN,ze,zm,zb,GS,simprocAttr,GZ,c,c0,ci,zi,hget,hpi,d1,zq,hsl,zA,IH,ya]
theorem di (keys:List Str)(p:z1)(r:List z1):xC keys (p::r)=cond (yG keys (keyOf p)) (qC keys p::xC keys r) (xC keys r):=by
 unfold xC
 rw[List.filter_cons]
 cases yG keys (keyOf p)<;>rfl
theorem Qm (keys:List Str)(hk:keys.length≤1048576)(gt:T)(cs:List z1)(hl:cs.length≤1048576)(hb:∀ c∈cs,c.y6≤1048576)(mt:Nat)(A:List (List T)):∀ (rest pre acc:List z1) (m:Nat),cs=pre++rest→m=acc.length→m+rest.length≤1073741824 →
 EV Tryz.prog pol (.loop 75 122 0 [.t (.list 1 (strs keys)),.ptr 0 0 0,.ptr 1 0 0,.ptr 2 0 0,.t (.int .i64 (pre.length:Int))] [.vs 2 [[.t gt,.t (.list 6 (z1.zh cs))]],.vs 2 [zG],.vs 2 [[.sl 3 0 mt none,.sl 4 0 m none]],.ts 1 A,.ts 6 (z1.zh acc)])
  = some (.loop (.exit 2) [.ptr 0 0 0,.ptr 1 0 0] [.vs 2 [zG],.vs 2 [[.sl 2 0 mt none,.sl 3 0 (acc++xC keys rest).length none]],.ts 1 A,.ts 6 (z1.zh (acc++xC keys rest))])
 | [],pre,acc,m,h,hm,hmM=>by
  have c:decide ((pre.length:Int)<(cs.length:Int))=false:=by simp[h]
  rw[show xC keys []=[] from rfl,List.append_nil,← hm]
  simp only[zG]
  refine zo Tryz.func75 rfl rfl ?_
  simp (disch:=((try simp only[LL]);omega)) only[↓GO,↓DRW,GA,GX,ren,zk,za,refs,z8,cst,zr,isC,bin,una,z7,zd,blt,asArg,zg,zc,zf,z6,E.mkS,unN,ze,zm,zb,GS,simprocAttr,GZ,c,z1.zj,zA]
 | x :: rest, pre, acc, m, h, hm, hmM => by
  have c:decide ((pre.length:Int)<(cs.length:Int))=true:=by simp[h];omega
  have c0:decide ((0:Int)≤(pre.length:Int))=true:=by simp
  have hix:cs[pre.length]? = some x:=by rw[h];simp
  have hget:(z1.zh cs)[pre.length]? = some x.enc:=by rw[h];simp[z1.zh]
  have hlen:pre.length+rest.length+1≤cs.length:=by rw[h];simp;omega
  have hsl:(z1.zh acc).length=m:=by rw[z1.zj,hm]
  simp only[List.length_cons]at hmM
  have hxb:=hb x (by rw[h];simp)
  have d1:=uB x (by omega)
  have d2:=Ws keys hk (keyOf x)
  have d3:=eM x hxb
  rw[di]
  cases q:yG keys (keyOf x) with
  | true =>
   rw[q]at d2
   have IH:=Qm keys hk gt cs hl hb mt A rest (pre++[x]) (acc++[qC keys x]) (m+1) (by rw[h];simp) (by simp[hm]) (by omega)
   have hnl:x.zn.length≤1048576:=by unfold z1.y6 at hxb;omega
   obtain⟨cap',L⟩:=Qn keys hk gt (.list 6 (z1.zh cs)) cs rfl x hnl pre.length hix (.str x.name) (.str x.version) (.str x.source) (.list 2 (zz.zh x.sums)) (.bool x.dev) mt m A (z1.zh acc) x.zn [] [] 0 (some 0) rfl rfl (by omega)
   rw[show ((pre++[x]).length:Int)=(pre.length:Int)+1 by simp,sB,List.append_assoc,show [qC keys x]++xC keys rest=qC keys x::xC keys rest from rfl]at IH
   simp only[cond_true,zG,List.nil_append,List.length_nil,Int.natCast_zero,show strs []=[] from rfl]at IH L ⊢
   have ht:(strs (x.zn.filter (yG keys))).take (x.zn.filter (yG keys)).length=strs (x.zn.filter (yG keys)):=by rw[← zi (x.zn.filter (yG keys))];simp
   generalize acc++qC keys x::xC keys rest=Z at *
   clear h hk hix hb hxb
   obtain⟨name,version,source,sums,dev,zn⟩:=x
   simp only[z1.enc,qC,List.map_cons,List.map_nil]at d1 d2 d3 hget IH L ht ⊢
   generalize zn.filter (yG keys)=nf at *
   refine zo Tryz.func75 rfl rfl ?_
   simp (disch:=((try simp only[LL]);omega)) only[↓GO,↓DRW,GA,GX,ren,zk,za,refs,z8,cst,zr,isC,bin,una,z7,zd,blt,asArg,zg,zc,zf,z6,E.mkS,unN,ze,zm,zb,GS,simprocAttr,GZ,c,c0,z1.zj,hget,d1,d2,d3,L,ht,zq,hsl,zA,IH,ya]
  | false =>
   rw[q]at d2
   have IH:=Qm keys hk gt cs hl hb mt A rest (pre++[x]) acc m (by rw[h];simp) hm (by omega)
   rw[show ((pre++[x]).length:Int)=(pre.length:Int)+1 by simp]at IH
   simp only[cond_false,zG]at IH ⊢
   generalize acc++xC keys rest=Z at *
   clear h hk hix hb hxb
   obtain⟨name,version,source,sums,dev,zn⟩:=x
   simp only[z1.enc,List.map_cons,List.map_nil]at d1 d2 d3 hget ⊢
   refine zo Tryz.func75 rfl rfl ?_
   simp (disch:=((try simp only[LL]);omega)) only[↓GO,↓DRW,GA,GX,ren,zk,za,refs,z8,cst,zr,isC,bin,una,z7,zd,blt,asArg,zg,zc,zf,z6,E.mkS,unN,ze,zm,zb,GS,simprocAttr,GZ,c,c0,z1.zj,hget,d1,d2,zq,hsl,zA,IH,ya]
theorem Nc (g:zw)(hB:GB g)(keys:List Str)(hk:keys.length≤1048576):zu (EV Tryz.prog pol) 75 [.agg (g.enc.map .t),.t (.list 1 (strs keys))]=some (.agg ((ti g keys).enc.map .t)):=by
 have hb:=hB.len
 obtain⟨top,packs⟩:=g
 simp only at hb
 have L1:=Ql keys hk top (by omega) packs top [] [] 0 rfl rfl (by omega)
 have L2:=Qm keys hk (.list 1 (strs top)) packs (by omega) hb.2.2 (top.filter (yG keys)).length (strs (top.filter (yG keys))) packs [] [] 0 rfl rfl (by omega)
 have ht1:(strs (top.filter (yG keys))).take (top.filter (yG keys)).length=strs (top.filter (yG keys)):=by rw[← zi (top.filter (yG keys))];simp
 have ht2:(z1.zh (xC keys packs)).take (xC keys packs).length=z1.zh (xC keys packs):=by rw[← z1.zj (xC keys packs)];simp
 simp only[ti,zw.enc,List.map_cons,List.map_nil,zG,List.nil_append,List.length_nil,Int.natCast_zero,show strs []=[] from rfl,show z1.zh []=[] from rfl]at L1 L2 ⊢
 generalize top.filter (yG keys)=Z1 at *
 generalize xC keys packs=Z2 at *
 clear hB hb hk
 apply zx
 refine zy rfl Tryz.func75 rfl (by kernel_rfl) ?_
 unfold Tryz.f75
 simp (disch:=((try simp only[LL]);omega)) only[↓GO,↓DRW,GA,GX,ren,zk,za,refs,z8,cst,zr,isC,bin,una,z7,zd,blt,asArg,zg,zc,zf,z6,E.mkS,unN,ze,zm,zb,GS,simprocAttr,zB,zC,yB,yr,yv,yu,yC,gh1,yq,yh,yk,zL,mkO,yf,y8,y9,mvC,unO,zR,yz,yt,yo,zI,yp,yn,zY,oc,oTs,oT,zK,zK.rowTs,yj,isL,E.BX,GZ,L1,L2,ht1,ht2,show uw ([]:List (List T))=true from rfl,zA]
theorem il (ps:List z1)(w:List Str):(zV ps w).length≤ps.length:=by
 have e:vy (yi snS ps (w.length+muS ps []) [] w)=zV ps w:=lJ ps _ w
 have h1:=tQ ps (w.length+muS ps []) [] w
 have h3:tF ps []≤ps.length:=List.countP_le_length
 rw[← e,nk]
 simp only[List.length_nil]at h1
 omega
theorem W4 (g:zw)(hB:GB g):zu (EV Tryz.prog pol) 70 [.agg (g.enc.map .t)]=some (.agg (g.enc.map .t)):=by
 have hb:=hB.len
 obtain⟨top,packs⟩:=g
 simp only at hb
 have t1:(strs top).take top.length=strs top:=by rw[← zi top];simp
 cases packs with
 | nil =>
  have L:EV Tryz.prog pol (.loop 70 58 0 [.ptr 0 0 0,.ptr 1 0 0,.ptr 2 0 0,.t (.int .i64 0)] [.vs 2 [[.t (.list 1 (strs top)),.t (.list 6 [])]],.vs 2 [zG],.vs 2 [[.sl 3 0 top.length none,.nil 6]],.ts 1 (strs top)])
   = some (.loop (.exit 0) [.ptr 0 0 0,.ptr 1 0 0] [.vs 2 [zG],.vs 2 [[.sl 2 0 top.length none,.nil 6]],.ts 1 (strs top)]):=by
   simp only[zG]
   refine zo Tryz.func70 rfl rfl ?_
   simp (disch:=((try simp only[LL]);omega)) only[↓GO,↓DRW,GA,GX,ren,zk,za,refs,z8,cst,zr,isC,bin,una,z7,zd,blt,asArg,zg,zc,zf,z6,E.mkS,unN,ze,zm,zb,GS,simprocAttr,GZ,zA,List.length_nil,Int.natCast_zero]
  simp only[zw.enc,z1.zh,List.map_cons,List.map_nil,zG]at L ⊢
  apply zx
  refine zy rfl Tryz.func70 rfl (by kernel_rfl) ?_
  unfold Tryz.f70
  simp (disch:=((try simp only[LL]);omega)) only[↓GO,↓DRW,GA,GX,ren,zk,za,refs,z8,cst,zr,isC,bin,una,z7,zd,blt,asArg,zg,zc,zf,z6,E.mkS,unN,ze,zm,zb,GS,simprocAttr,GZ,L,t1,zi,zA,ya]
  try (refine zU (by kernel_rfl) ?_;rfl)
 | cons x rest =>
  have hcx:=eM x (hb.2.2 x (by simp))
  have L:=RL top (x::rest) (by omega) (by omega) hb.2.2 rest [x] 1 rfl rfl
  have L0:EV Tryz.prog pol (.loop 70 58 0 [.ptr 0 0 0,.ptr 1 0 0,.ptr 2 0 0,.t (.int .i64 0)] [.vs 2 [[.t (.list 1 (strs top)),.t (.list 6 (z1.zh (x::rest)))]],.vs 2 [zG],.vs 2 [[.sl 3 0 top.length none,.nil 6]],.ts 1 (strs top)])
   = some (.loop (.exit 0) [.ptr 0 0 0,.ptr 1 0 0] [.vs 2 [zG],.vs 2 [[.sl 2 0 top.length none,.sl 3 0 (x::rest).length none]],.ts 1 (strs top),.ts 6 (z1.zh (x::rest))]):=by
   have c:decide ((0:Int)<((x::rest).length:Int))=true:=by apply decide_eq_true;simp only[List.length_cons];omega
   have hget:(z1.zh (x::rest))[0]? = some x.enc:=rfl
   rw[show z1.zh [x]=[x.enc] from rfl]at L
   obtain⟨name,version,source,sums,dev,zn⟩:=x
   simp only[z1.enc,List.map_cons,List.map_nil,zG,List.length_cons,List.length_nil,Nat.zero_add]at hcx hget L ⊢
   generalize z1.mk name version source sums dev zn::rest=cs at *
   refine zo Tryz.func70 rfl rfl ?_
   simp (disch:=((try simp only[LL]);omega)) only[↓GO,↓DRW,GA,GX,ren,zk,za,refs,z8,cst,zr,isC,bin,una,z7,zd,blt,asArg,zg,zc,zf,z6,E.mkS,unN,ze,zm,zb,GS,simprocAttr,GZ,c,z1.zj,uM,hget,hcx,zq,Int.reduceAdd,L,zA,ya,List.length_nil,Int.natCast_zero]
   try (refine zU (by kernel_rfl) ?_;first | rfl | exact L)
  clear L
  have t2:(z1.zh (x::rest)).take (x::rest).length=z1.zh (x::rest):=by rw[← z1.zj (x::rest)];simp
  generalize x::rest=cs at *
  simp only[zw.enc,List.map_cons,List.map_nil,zG]at L0 ⊢
  apply zx
  refine zy rfl Tryz.func70 rfl (by kernel_rfl) ?_
  unfold Tryz.f70
  simp (disch:=((try simp only[LL]);omega)) only[↓GO,↓DRW,GA,GX,ren,zk,za,refs,z8,cst,zr,isC,bin,una,z7,zd,blt,asArg,zg,zc,zf,z6,E.mkS,unN,ze,zm,zb,GS,simprocAttr,GZ,L0,t1,t2,zi,zA,ya]
  try (refine zU (by kernel_rfl) ?_;rfl)
theorem c_prR (g:zw)(hB:GB g):zu (EV Tryz.prog pol) 71 [.agg (g.enc.map .t)]=some (.agg ((wS g).enc.map .t)):=by
 have d1:=pT g hB
 cases q:zO g with
 | true =>
  have hb:=hB.len
  rw[q]at d1
  have d2:=c_reR g hB g.top (by omega) q
  have hk:(zV g.packs g.top).length≤1048576:=Nat.le_trans (il g.packs g.top) hb.1
  have d3:=Nc g hB (zV g.packs g.top) hk
  rw[aX q]at d3
  generalize wS g=Z at *
  clear hB hb hk q
  obtain⟨top,packs⟩:=g
  obtain⟨zt,zp⟩:=Z
  simp only[zw.enc,List.map_cons,List.map_nil]at d1 d2 d3 ⊢
  apply zx
  refine zy rfl Tryz.func71 rfl (by kernel_rfl) ?_
  unfold Tryz.f71
  simp (disch:=((try simp only[LL]);omega)) only[↓GO,↓DRW,GA,GX,ren,zk,za,refs,z8,cst,zr,isC,bin,una,z7,zd,blt,asArg,zg,zc,zf,z6,E.mkS,unN,ze,zm,zb,GS,simprocAttr,GZ,d1,d2,d3,zA]
  try (refine zU (by kernel_rfl) ?_;rfl)
 | false =>
  rw[q]at d1
  have d2:=W4 g hB
  rw[show wS g=g by unfold wS;rw[q];rfl]
  clear hB q
  obtain⟨top,packs⟩:=g
  simp only[zw.enc,List.map_cons,List.map_nil]at d1 d2 ⊢
  apply zx
  refine zy rfl Tryz.func71 rfl (by kernel_rfl) ?_
  unfold Tryz.f71
  simp (disch:=((try simp only[LL]);omega)) only[↓GO,↓DRW,GA,GX,ren,zk,za,refs,z8,cst,zr,isC,bin,una,z7,zd,blt,asArg,zg,zc,zf,z6,E.mkS,unN,ze,zm,zb,GS,simprocAttr,GZ,d1,d2,zA]
theorem M4 (keys:List Str)(hk:keys.length≤1048576)(x:z1)(hb:x.y6≤1048576):zu (EV Tryz.prog pol) 137 (.agg (x.enc.map .t)::[.t (.fp [.list 1 (strs keys)])])=some (.t (.bool (!yG keys (keyOf x)))):=by
 have d1:=mb x (by omega)
 have d2:=Nj keys hk (keyOf x)
 clear hb hk
 obtain⟨name,version,source,sums,dev,zn⟩:=x
 simp only[z1.enc,List.map_cons,List.map_nil]at d1 d2 ⊢
 apply zx
 refine zy rfl Tryz.func137 rfl (by kernel_rfl) ?_
 unfold Tryz.f137
 simp (disch:=((try simp only[LL]);omega)) only[↓GO,↓DRW,GA,GX,ren,zk,za,refs,z8,cst,zr,isC,bin,una,z7,zd,blt,asArg,zg,zc,zf,z6,E.mkS,unN,ze,zm,zb,GS,simprocAttr,GZ,d1,d2,zA]
 try (refine zU (by kernel_rfl) ?_;first | rfl | simp (disch:=((try simp only[LL]);omega)) only[↓GO,↓DRW,GA,GX,ren,zk,za,refs,z8,cst,zr,isC,bin,una,z7,zd,blt,asArg,zg,zc,zf,z6,E.mkS,unN,ze,zm,zb,GS,simprocAttr,GZ,d1,d2,zA])
theorem uW:∀ l:List z1,vT (ocE (z1.zh l))=some (z1.zh l)
 | []=>rfl
 | x::l=>by
  rw[show ocE (z1.zh (x::l))=x.enc.map oc::ocE (z1.zh l) from rfl,show z1.zh (x::l)=x.enc::z1.zh l from rfl]
  have h:oTs (x.enc.map oc)=some x.enc:=rfl
  simp only[vT,h,uW l]
theorem jF (keys:List Str)(ps:List z1):(ps.filter fun x=>!!yG keys (keyOf x))=yL keys ps:=by
 unfold yL
 congr 1
 funext x
 cases yG keys (keyOf x)<;>rfl
set_option maxHeartbeats 4000000 in
theorem Zq (top:List Str)(p:z1)(rest:List z1)(hB:GB ⟨top,p::rest⟩)(ho:zO ⟨top,p::rest⟩=true) :
 EV Tryz.prog pol (.callO false 53 [.agg [.t (.list 1 (strs top)),.t (.list 6 (z1.zh (p::rest)))]] [])=some (.call (.agg [.sl 0 0 top.length none,.sl 1 0 (yL (zV (p::rest) top) (p::rest)).length none]) [.ts 1 (strs top),.vs 6 (ocE (z1.zh (yL (zV (p::rest) top) (p::rest))))]):=by
 have hb:=hB.len
 simp only at hb
 have hcp:=mQ top p rest (by omega) (by omega) hb.2.2
 have d1:=tg _ hB
 rw[ho]at d1
 have d2:=N5 _ hB top (by omega) ho
 simp only at d2
 have hkl:=il (p::rest) top
 generalize hcs:p::rest=cs at *
 generalize zV cs top=keys at *
 obtain⟨J',hJr,hJ',d3⟩:=Mi 137 (.list 1 (strs keys)) (fun x=>!yG keys (keyOf x)) cs (by omega) (fun x hx=>M4 keys (by omega) x (hb.2.2 x hx)) cs.length rfl none
 rw[jF]at d3 hJ'
 generalize yL keys cs=Z at *
 have hZl:(ocE (z1.zh Z)).length=Z.length:=by rw[zS,z1.zj]
 have htk:(ocE (z1.zh Z)++J').take Z.length=ocE (z1.zh Z):=by rw[← hZl];simp
 have hle:Z.length≤(ocE (z1.zh Z)++J').length:=by rw[List.length_append,hZl];omega
 have ht1:(strs top).take top.length=strs top:=by rw[← zi top];simp
 have f2:=uQ Z
 have hA:=xQ (yD Z) hJr
 obtain⟨h1,h2,_⟩:=hA
 simp only[zw.enc,List.map_cons,List.map_nil]at d1 d2
 clear hB hb ho hkl hJ' hcs hJr
 have hot:vT (ocE (z1.zh Z))=some (z1.zh Z):=uW Z
 have hoc:(z1.zh Z).map (fun e=>e.map oc)=ocE (z1.zh Z):=rfl
 by_cases hq:(ocE (z1.zh Z)++J').length=Z.length
 · have hE : ocE (z1.zh Z) ++ J' = ocE (z1.zh Z) := by have h := htk; rw [List.take_of_length_le (by omega)] at h; exact h
   rw[hE]at d3
   refine zH Tryz.func53 rfl (by kernel_rfl) ?_
   unfold Tryz.f53
   simp (disch:=((try simp only[LL]);omega)) only[↓GO,↓DRW,GA,GX,ren,zk,za,refs,z8,cst,zr,isC,bin,una,z7,zd,blt,asArg,zg,zc,zf,z6,E.mkS,unN,ze,zm,zb,GS,simprocAttr,zB,zC,yB,yr,yv,yu,yC,gh1,yq,yh,yk,zL,mkO,yf,y8,y9,mvC,unO,zR,yz,yt,yo,zI,yp,yn,zY,oc,oTs,oT,zK,zK.rowTs,yj,isL,E.BX,GZ,hcp,d1,d2,d3,hot,hoc,ht1,f2,yJ,yc,zS,z1.zj,List.drop_zero,wH,zA]
 · generalize ocE (z1.zh Z) ++ J' = E1 at *
   have hq':(E1.length=Z.length)=False:=eq_false hq
   refine zH Tryz.func53 rfl (by kernel_rfl) ?_
   unfold Tryz.f53
   simp (disch:=((try simp only[LL]);omega)) only[↓GO,↓DRW,GA,GX,ren,zk,za,refs,z8,cst,zr,isC,bin,una,z7,zd,blt,asArg,zg,zc,zf,z6,E.mkS,unN,ze,zm,zb,GS,simprocAttr,zB,zC,yB,yr,yv,yu,yC,gh1,yq,yh,yk,zL,mkO,yf,y8,y9,mvC,unO,zR,yz,yt,yo,zI,yp,yn,zY,oc,oTs,oT,zK,zK.rowTs,yj,isL,E.BX,GZ,hcp,d1,d2,d3,h1,h2,hq',htk,hle,hot,hoc,ht1,f2,yJ,yc,zS,z1.zj,List.drop_zero,wH,zA]
theorem Mh (g:Nat)(cell:T):EV Tryz.prog pol (.callO false 57 [.nil 6,.fn g [.ptr 0 0 0]] [.vs 1 [[.t cell]]])=some (.call (.nil 6) [.vs 1 [[.t cell]]]):=by
 have d1:=ue g [.fp [cell]] (fun _=>false) [] (by simp) (fun x hx=>by simp at hx)
 rw[show ixI (xU (fun _=>false) ([]:List z1) 0) = -1 from rfl,show z1.zh []=[] from rfl]at d1
 refine zH Tryz.func57 rfl (by kernel_rfl) ?_
 unfold Tryz.f57
 simp (disch:=((try simp only[LL]);omega)) only[↓GO,↓DRW,GA,GX,ren,zk,za,refs,z8,cst,zr,isC,bin,una,z7,zd,blt,asArg,zg,zc,zf,z6,E.mkS,unN,ze,zm,zb,GS,simprocAttr,zB,zC,yB,yr,yv,yu,yC,gh1,yq,yh,yk,zL,mkO,yf,y8,y9,mvC,unO,zR,yz,yt,yo,zI,yp,yn,zY,oc,oTs,oT,zK,zK.rowTs,yj,isL,E.BX,GZ,d1,wH,List.drop_zero,beq_self_eq_true,zA]
theorem Vn (top:List Str)(hB:GB ⟨top,[]⟩)(ho:zO ⟨top,[]⟩=true) :
 EV Tryz.prog pol (.callO false 53 [.agg [.t (.list 1 (strs top)),.t (.list 6 (z1.zh []))]] [])=some (.call (.agg [.sl 0 0 top.length none,.sl 1 0 (yL (zV [] top) []).length none]) [.ts 1 (strs top),.vs 6 (ocE (z1.zh (yL (zV [] top) [])))]):=by
 have hb:=hB.len
 simp only at hb
 have hcp:=kz top (by omega)
 have d1:=tg _ hB
 rw[ho]at d1
 have d2:=N5 _ hB top (by omega) ho
 simp only at d2
 rw[show yL (zV [] top) []=[] from rfl]
 have d3:=Mh 137 (.list 1 (strs (zV [] top)))
 generalize zV [] top=keys at *
 simp only[zw.enc,List.map_cons,List.map_nil,show z1.zh []=[] from rfl,show ocE []=[] from rfl,List.length_nil]at d1 d2 ⊢
 have ht1:(strs top).take top.length=strs top:=by rw[← zi top];simp
 clear hB hb ho
 refine zH Tryz.func53 rfl (by kernel_rfl) ?_
 unfold Tryz.f53
 simp (disch:=((try simp only[LL]);omega)) only[↓GO,↓DRW,GA,GX,ren,zk,za,refs,z8,cst,zr,isC,bin,una,z7,zd,blt,asArg,zg,zc,zf,z6,E.mkS,unN,ze,zm,zb,GS,simprocAttr,zB,zC,yB,yr,yv,yu,yC,gh1,yq,yh,yk,zL,mkO,yf,y8,y9,mvC,unO,zR,yz,yt,yo,zI,yp,yn,zY,oc,oTs,oT,zK,zK.rowTs,yj,isL,E.BX,GZ,hcp,d1,d2,d3,ht1,List.drop_zero,wH,zA]
theorem OT (a b:List Str)(hl:a.length≤4194304):∀ (ra rb pa pb:List Str),a=pa++ra→b=pb++rb→pa.length=pb.length→ra.length=rb.length →
 EV Tryz.prog pol (.loop 15 58 0 [.t (.list 1 (strs a)),.t (.list 1 (strs b)),.t (.int .i64 (pa.length:Int))] [])=some (cond (ra==rb) (.loop (.exit 0) [.bad] []) (.loop .ret [.t (.bool false)] []))
 | [],[],pa,pb,ha,hb,hp,hr=>by
  have c:decide ((pa.length:Int)<(a.length:Int))=false:=by simp[ha]
  rw[show (([]:List Str)==[])=true from rfl,cond_true]
  refine zo Tryz.func15 rfl rfl ?_
  simp (disch:=((try simp only[LL]);omega)) only[↓GO,↓DRW,GA,GX,ren,zk,za,refs,z8,cst,zr,isC,bin,una,z7,zd,blt,asArg,zg,zc,zf,z6,E.mkS,unN,ze,zm,zb,GS,simprocAttr,GZ,c,zi,zA]
 | [],_::_,pa,pb,ha,hb,hp,hr=>by simp at hr
 | _::_,[],pa,pb,ha,hb,hp,hr=>by simp at hr
 | x :: ra, y :: rb, pa, pb, ha, hb, hp, hr => by
  have c:decide ((pa.length:Int)<(a.length:Int))=true:=by simp[ha];omega
  have hg1:(strs a)[pa.length]? = some [.str x]:=wX (by rw[ha];simp)
  have hg2:(strs b)[pa.length]? = some [.str y]:=wX (by rw[hb,hp];simp)
  have hlen:pa.length+ra.length+1≤a.length:=by rw[ha];simp;omega
  have IH:=OT a b hl ra rb (pa++[x]) (pb++[y]) (by rw[ha];simp) (by rw[hb];simp) (by simp[hp]) (by simpa using hr)
  rw[show ((pa++[x]).length:Int)=(pa.length:Int)+1 by simp]at IH
  rw[List.cons_beq_cons]
  clear ha hb
  cases q:(x==y) with
  | true =>
   rw[Bool.true_and]
   refine zo Tryz.func15 rfl rfl ?_
   simp (disch:=((try simp only[LL]);omega)) only[↓GO,↓DRW,GA,GX,ren,zk,za,refs,z8,cst,zr,isC,bin,una,z7,zd,blt,asArg,zg,zc,zf,z6,E.mkS,unN,ze,zm,zb,GS,simprocAttr,GZ,c,hg1,hg2,zi,q,bne,Bool.not_true,zq,zA,IH]
  | false =>
   rw[Bool.false_and,cond_false]
   refine zo Tryz.func15 rfl rfl ?_
   simp (disch:=((try simp only[LL]);omega)) only[↓GO,↓DRW,GA,GX,ren,zk,za,refs,z8,cst,zr,isC,bin,una,z7,zd,blt,asArg,zg,zc,zf,z6,E.mkS,unN,ze,zm,zb,GS,simprocAttr,GZ,c,hg1,hg2,zi,q,bne,Bool.not_false,zq,zA]
theorem Qv (a b:List Str)(hl:a.length≤4194304):zu (EV Tryz.prog pol) 15 [.t (.list 1 (strs a)),.t (.list 1 (strs b))]=some (.t (.bool (a==b))):=by
 by_cases hn:a.length=b.length
 · have L := OT a b hl a b [] [] rfl rfl rfl hn
   simp only[List.length_nil,Int.natCast_zero]at L
   have c:((a.length:Int) != (b.length:Int))=false:=by rw[hn];simp
   cases q:(a==b)<;>rw[q]at L<;>simp only[cond_true,cond_false]at L
   all_goals
    apply zx
    refine zy rfl Tryz.func15 rfl (by kernel_rfl) ?_
    unfold Tryz.f15
    simp (disch:=((try simp only[LL]);omega)) only[↓GO,↓DRW,GA,GX,ren,zk,za,refs,z8,cst,zr,isC,bin,una,z7,zd,blt,asArg,zg,zc,zf,z6,E.mkS,unN,ze,zm,zb,GS,simprocAttr,GZ,L,zi,c,zA]
 · have c : ((a.length : Int) != (b.length : Int)) = true := by simp; omega
   have hf:(a==b)=false:=by rw[beq_eq_false_iff_ne];intro e;exact hn (by rw[e])
   rw[hf]
   apply zx
   refine zy rfl Tryz.func15 rfl (by kernel_rfl) ?_
   unfold Tryz.f15
   simp (disch:=((try simp only[LL]);omega)) only[↓GO,↓DRW,GA,GX,ren,zk,za,refs,z8,cst,zr,isC,bin,una,z7,zd,blt,asArg,zg,zc,zf,z6,E.mkS,unN,ze,zm,zb,GS,simprocAttr,GZ,zi,c,zA]
theorem OJ (p q:z1)(hp:p.y6≤1048576):∀ (ra rb pa pb:List zz),p.sums=pa++ra→q.sums=pb++rb→pa.length=pb.length→ra.length=rb.length →
 EV Tryz.prog pol (.loop 30 58 0 [.ptr 0 0 0,.ptr 1 0 0,.t (.int .i64 (pa.length:Int))] [.vs 6 [p.enc.map .t],.vs 6 [q.enc.map .t]])=some (cond (xA ra==xA rb) (.loop (.exit 0) [.bad] []) (.loop .ret [.t (.bool false)] []))
 | [],[],pa,pb,ha,hb,hpl,hr=>by
  have c:decide ((pa.length:Int)<(p.sums.length:Int))=false:=by simp[ha]
  rw[show (xA []==xA [])=true from rfl,cond_true]
  obtain⟨name,version,source,sums,dev,zn⟩:=p
  obtain⟨name',version',source',sums',dev',needs'⟩:=q
  simp only[z1.enc,List.map_cons,List.map_nil]at c ⊢
  refine zo Tryz.func30 rfl rfl ?_
  simp (disch:=((try simp only[LL]);omega)) only[↓GO,↓DRW,GA,GX,ren,zk,za,refs,z8,cst,zr,isC,bin,una,z7,zd,blt,asArg,zg,zc,zf,z6,E.mkS,unN,ze,zm,zb,GS,simprocAttr,GZ,c,zz.zj,zA]
 | [],_::_,pa,pb,ha,hb,hpl,hr=>by simp at hr
 | _::_,[],pa,pb,ha,hb,hpl,hr=>by simp at hr
 | x :: ra, y :: rb, pa, pb, ha, hb, hpl, hr => by
  have c:decide ((pa.length:Int)<(p.sums.length:Int))=true:=by simp[ha];omega
  have hg1:(zz.zh p.sums)[pa.length]? = some [.str x.alg,.str x.bytes]:=eA (by rw[ha];simp)
  have hg2:(zz.zh q.sums)[pa.length]? = some [.str y.alg,.str y.bytes]:=eA (by rw[hb,hpl];simp)
  have hlen:pa.length+ra.length+1≤p.sums.length:=by rw[ha];simp;omega
  have hsl:=(qf hp).1
  have IH:=OJ p q hp ra rb (pa++[x]) (pb++[y]) (by rw[ha];simp) (by rw[hb];simp) (by simp[hpl]) (by simpa using hr)
  rw[show ((pa++[x]).length:Int)=(pa.length:Int)+1 by simp]at IH
  rw[vU,vU,List.cons_beq_cons]
  clear ha hb hp
  obtain⟨name,version,source,sums,dev,zn⟩:=p
  obtain⟨name',version',source',sums',dev',needs'⟩:=q
  simp only[z1.enc,List.map_cons,List.map_nil]at c hg1 hg2 hlen hsl IH ⊢
  cases q1:([x.alg,x.bytes]==[y.alg,y.bytes]) with
  | true =>
   rw[Bool.true_and]
   refine zo Tryz.func30 rfl rfl ?_
   simp (disch:=((try simp only[LL]);omega)) only[↓GO,↓DRW,GA,GX,ren,zk,za,refs,z8,cst,zr,isC,bin,una,z7,zd,blt,asArg,zg,zc,zf,z6,E.mkS,unN,ze,zm,zb,GS,simprocAttr,GZ,c,hg1,hg2,q1,zz.zj,bne,Bool.not_true,zq,zA,IH,List.length_cons,List.length_nil,Nat.zero_add,Nat.reduceAdd,and_self,if_true]
  | false =>
   rw[Bool.false_and,cond_false]
   refine zo Tryz.func30 rfl rfl ?_
   simp (disch:=((try simp only[LL]);omega)) only[↓GO,↓DRW,GA,GX,ren,zk,za,refs,z8,cst,zr,isC,bin,una,z7,zd,blt,asArg,zg,zc,zf,z6,E.mkS,unN,ze,zm,zb,GS,simprocAttr,GZ,c,hg1,hg2,q1,zz.zj,bne,Bool.not_false,zq,zA,List.length_cons,List.length_nil,Nat.zero_add,Nat.reduceAdd,and_self,if_true]
theorem c_spJ (p q : z1) (hp : p.y6 ≤ 1048576) : zu (EV Tryz.prog pol) 30 [.agg (p.enc.map .t), .agg (q.enc.map .t)] = some (.t (.bool (pO p q))) := by
 obtain⟨hp1,hp2⟩:=qf hp
 have d2:=Qv p.zn q.zn (by omega)
 have L:p.sums.length=q.sums.length→_:=OJ p q hp p.sums q.sums [] [] rfl rfl rfl
 have hne:p.sums.length≠q.sums.length→(xA p.sums==xA q.sums)=false:=fun hn=>by rw[beq_eq_false_iff_ne];intro e;exact hn (by rw[← uH p.sums,e,uH])
 unfold pO
 clear hp
 obtain⟨name,version,source,sums,dev,zn⟩:=p
 obtain⟨name',version',source',sums',dev',needs'⟩:=q
 simp only[z1.enc,List.map_cons,List.map_nil,List.length_nil,Int.natCast_zero]at L d2 hne ⊢
 apply zx
 refine zy rfl Tryz.func30 rfl (by kernel_rfl) ?_
 unfold Tryz.f30
 cases q1:(name==name') with
 | false=>simp (disch:=((try simp only[LL]);omega)) only[↓GO,↓DRW,GA,GX,ren,zk,za,refs,z8,cst,zr,isC,bin,una,z7,zd,blt,asArg,zg,zc,zf,z6,E.mkS,unN,ze,zm,zb,GS,simprocAttr,GZ,q1,zA,bne,Bool.not_false,Bool.false_and]
 | true =>
  cases q2:(version==version') with
  | false=>simp (disch:=((try simp only[LL]);omega)) only[↓GO,↓DRW,GA,GX,ren,zk,za,refs,z8,cst,zr,isC,bin,una,z7,zd,blt,asArg,zg,zc,zf,z6,E.mkS,unN,ze,zm,zb,GS,simprocAttr,GZ,q1,q2,zA,bne,Bool.not_false,Bool.not_true,Bool.false_and,Bool.true_and]
  | true =>
   cases q3:(source==source') with
   | false=>simp (disch:=((try simp only[LL]);omega)) only[↓GO,↓DRW,GA,GX,ren,zk,za,refs,z8,cst,zr,isC,bin,una,z7,zd,blt,asArg,zg,zc,zf,z6,E.mkS,unN,ze,zm,zb,GS,simprocAttr,GZ,q1,q2,q3,zA,bne,Bool.not_false,Bool.not_true,Bool.false_and,Bool.true_and]
   | true =>
    cases q4:(dev==dev') with
    | false=>simp (disch:=((try simp only[LL]);omega)) only[↓GO,↓DRW,GA,GX,ren,zk,za,refs,z8,cst,zr,isC,bin,una,z7,zd,blt,asArg,zg,zc,zf,z6,E.mkS,unN,ze,zm,zb,GS,simprocAttr,GZ,q1,q2,q3,q4,zA,bne,Bool.not_false,Bool.not_true,Bool.false_and,Bool.true_and]
    | true =>
     by_cases hn:sums.length=sums'.length
     · have c : ((sums.length : Int) == (sums'.length : Int)) = true := by rw [hn]; simp
       have L':=L hn
       cases q6:(zn==needs') with
       | false=>rw[q6]at d2;simp (disch:=((try simp only[LL]);omega)) only[↓GO,↓DRW,GA,GX,ren,zk,za,refs,z8,cst,zr,isC,bin,una,z7,zd,blt,asArg,zg,zc,zf,z6,E.mkS,unN,ze,zm,zb,GS,simprocAttr,GZ,q1,q2,q3,q4,c,d2,zz.zj,zA,bne,Bool.not_false,Bool.not_true,Bool.true_and,Bool.and_false]
       | true =>
        rw[q6]at d2
        cases q5:(xA sums==xA sums')<;>rw[q5]at L'<;>simp only[cond_true,cond_false]at L'
        all_goals simp (disch:=((try simp only[LL]);omega)) only[↓GO,↓DRW,GA,GX,ren,zk,za,refs,z8,cst,zr,isC,bin,una,z7,zd,blt,asArg,zg,zc,zf,z6,E.mkS,unN,ze,zm,zb,GS,simprocAttr,GZ,q1,q2,q3,q4,c,d2,L',zz.zj,zA,bne,Bool.not_false,Bool.not_true,Bool.true_and,Bool.and_true]
     · have c : ((sums.length : Int) == (sums'.length : Int)) = false := by simp; omega
       rw[hne hn]
       simp (disch:=((try simp only[LL]);omega)) only[↓GO,↓DRW,GA,GX,ren,zk,za,refs,z8,cst,zr,isC,bin,una,z7,zd,blt,asArg,zg,zc,zf,z6,E.mkS,unN,ze,zm,zb,GS,simprocAttr,GZ,q1,q2,q3,q4,c,zz.zj,zA,bne,Bool.not_false,Bool.not_true,Bool.true_and,Bool.false_and]
def ta:List z1→List z1→Bool
 | [],[]=>true
 | p::r,q::s=>pO p q&&ta r s
 | _,_=>false
def n5 (a b:zw):Bool:=ta a.packs b.packs&&a.top==b.top
theorem ni:∀ {a b:List zz},xA a=xA b→a=b
 | [],[],_=>rfl
 | [],_::_,h=>by cases h
 | _::_,[],h=>by cases h
 | ⟨x1,x2⟩::r,⟨y1,y2⟩::s,h=>by
  rw[vU,vU]at h
  injection h with h1 h2
  injection h1 with h3 h4
  injection h4 with h5 _
  cases h3;cases h5
  rw[ni h2]
theorem WI {p q:z1}:pO p q=true↔p=q:=by
 constructor
 · intro h
   unfold pO at h
   simp only[Bool.and_eq_true,beq_iff_eq]at h
   obtain⟨h1,h2,h3,h4,h5,h6⟩:=h
   have h7:=ni h5
   obtain⟨name,version,source,sums,dev,zn⟩:=p
   obtain⟨name',version',source',sums',dev',needs'⟩:=q
   simp only at h1 h2 h3 h4 h6 h7
   subst h1 h2 h3 h4 h6 h7
   rfl
 · rintro rfl
   unfold pO
   simp
theorem ie:∀ {a b:List z1},ta a b=true↔a=b
 | [],[]=>by simp[ta]
 | [],_::_=>by simp[ta]
 | _::_,[]=>by simp[ta]
 | p::r,q::s=>by rw[ta,Bool.and_eq_true,WI,ie,List.cons.injEq]
theorem rC {a b:zw}:n5 a b=true↔a=b:=by
 obtain⟨t,ps⟩:=a
 obtain⟨t',ps'⟩:=b
 unfold n5
 rw[Bool.and_eq_true,ie,beq_iff_eq,zw.mk.injEq]
 exact And.comm
theorem OK (a b:zw)(hA:GB a):∀ (ra rb pa pb:List z1),a.packs=pa++ra→b.packs=pb++rb→pa.length=pb.length→ra.length=rb.length →
 EV Tryz.prog pol (.loop 13 58 0 [.ptr 0 0 0,.ptr 1 0 0,.t (.int .i64 (pa.length:Int))] [.vs 2 [a.enc.map .t],.vs 2 [b.enc.map .t]])=some (cond (ta ra rb) (.loop (.exit 0) [.bad] []) (.loop .ret [.t (.bool false)] []))
 | [],[],pa,pb,ha,hb,hp,hr=>by
  have c:decide ((pa.length:Int)<(a.packs.length:Int))=false:=by simp[ha]
  rw[ta,cond_true]
  simp only[zw.enc,List.map_cons,List.map_nil]
  refine zo Tryz.func13 rfl rfl ?_
  simp (disch:=((try simp only[LL]);omega)) only[↓GO,↓DRW,GA,GX,ren,zk,za,refs,z8,cst,zr,isC,bin,una,z7,zd,blt,asArg,zg,zc,zf,z6,E.mkS,unN,ze,zm,zb,GS,simprocAttr,GZ,c,z1.zj,zA]
 | [],_::_,pa,pb,ha,hb,hp,hr=>by simp at hr
 | _::_,[],pa,pb,ha,hb,hp,hr=>by simp at hr
 | x :: ra, y :: rb, pa, pb, ha, hb, hp, hr => by
  obtain⟨b1,b2,b3⟩:=hA.len
  have c:decide ((pa.length:Int)<(a.packs.length:Int))=true:=by simp[ha];omega
  have hg1:(z1.zh a.packs)[pa.length]? = some x.enc:=by rw[ha];exact sP z1.enc pa x ra
  have hg2:(z1.zh b.packs)[pa.length]? = some y.enc:=by rw[hb,hp];exact sP z1.enc pb y rb
  have hlen:pa.length+ra.length+1≤a.packs.length:=by rw[ha];simp;omega
  have hk:=c_spJ x y (b3 x (by rw[ha];simp))
  have IH:=OK a b hA ra rb (pa++[x]) (pb++[y]) (by rw[ha];simp) (by rw[hb];simp) (by simp[hp]) (by simpa using hr)
  rw[show ((pa++[x]).length:Int)=(pa.length:Int)+1 by simp]at IH
  rw[ta]
  clear ha hb hA b3
  simp only[zw.enc,List.map_cons,List.map_nil]at IH ⊢
  cases q:pO x y with
  | true =>
   rw[q]at hk
   rw[Bool.true_and]
   simp only[z1.enc,List.map_cons,List.map_nil]at hg1 hg2 hk
   refine zo Tryz.func13 rfl rfl ?_
   simp (disch:=((try simp only[LL]);omega)) only[↓GO,↓DRW,GA,GX,ren,zk,za,refs,z8,cst,zr,isC,bin,una,z7,zd,blt,asArg,zg,zc,zf,z6,E.mkS,unN,ze,zm,zb,GS,simprocAttr,GZ,c,z1.zj,hg1,hg2,hk,Bool.not_true,zq,zA,IH]
  | false =>
   rw[q]at hk
   rw[Bool.false_and,cond_false]
   simp only[z1.enc,List.map_cons,List.map_nil]at hg1 hg2 hk
   refine zo Tryz.func13 rfl rfl ?_
   simp (disch:=((try simp only[LL]);omega)) only[↓GO,↓DRW,GA,GX,ren,zk,za,refs,z8,cst,zr,isC,bin,una,z7,zd,blt,asArg,zg,zc,zf,z6,E.mkS,unN,ze,zm,zb,GS,simprocAttr,GZ,c,z1.zj,hg1,hg2,hk,Bool.not_false,zq,zA]
theorem N2 (a b:zw)(hA:GB a):zu (EV Tryz.prog pol) 13 [.agg (a.enc.map .t),.agg (b.enc.map .t)]=some (.t (.bool (n5 a b))):=by
 obtain⟨b1,b2,b3⟩:=hA.len
 have d1:=Qv a.top b.top (by omega)
 by_cases hn:a.packs.length=b.packs.length
 · have L := OK a b hA a.packs b.packs [] [] rfl rfl rfl hn
   simp only[List.length_nil,Int.natCast_zero]at L
   have c:((a.packs.length:Int) != (b.packs.length:Int))=false:=by rw[hn];simp
   have c':((a.packs.length:Int)==(b.packs.length:Int))=true:=by rw[hn];simp
   unfold n5
   simp only[zw.enc,List.map_cons,List.map_nil]at L ⊢
   cases q:(a.top==b.top) with
   | false =>
    rw[q]at d1
    rw[Bool.and_false]
    apply zx
    refine zy rfl Tryz.func13 rfl (by kernel_rfl) ?_
    unfold Tryz.f13
    simp (disch:=((try simp only[LL]);omega)) only[↓GO,↓DRW,GA,GX,ren,zk,za,refs,z8,cst,zr,isC,bin,una,z7,zd,blt,asArg,zg,zc,zf,z6,E.mkS,unN,ze,zm,zb,GS,simprocAttr,GZ,c,c',d1,z1.zj,zA,bne,Bool.not_true,Bool.not_false]
   | true =>
    rw[q]at d1
    rw[Bool.and_true]
    cases q2:ta a.packs b.packs<;>rw[q2]at L<;>simp only[cond_true,cond_false]at L
    all_goals
     apply zx
     refine zy rfl Tryz.func13 rfl (by kernel_rfl) ?_
     unfold Tryz.f13
     simp (disch:=((try simp only[LL]);omega)) only[↓GO,↓DRW,GA,GX,ren,zk,za,refs,z8,cst,zr,isC,bin,una,z7,zd,blt,asArg,zg,zc,zf,z6,E.mkS,unN,ze,zm,zb,GS,simprocAttr,GZ,L,d1,c,c',z1.zj,zA,bne,Bool.not_true,Bool.not_false]
 · have c : ((a.packs.length : Int) != (b.packs.length : Int)) = true := by simp; omega
   have c':((a.packs.length:Int)==(b.packs.length:Int))=false:=by simp;omega
   have hf:n5 a b=false:=by
    cases h:n5 a b with
    | false=>rfl
    | true=>exact absurd (by rw[rC.1 h]) hn
   rw[hf]
   simp only[zw.enc,List.map_cons,List.map_nil]
   apply zx
   refine zy rfl Tryz.func13 rfl (by kernel_rfl) ?_
   unfold Tryz.f13
   simp (disch:=((try simp only[LL]);omega)) only[↓GO,↓DRW,GA,GX,ren,zk,za,refs,z8,cst,zr,isC,bin,una,z7,zd,blt,asArg,zg,zc,zf,z6,E.mkS,unN,ze,zm,zb,GS,simprocAttr,GZ,c,c',z1.zj,zA,bne,Bool.not_true,Bool.not_false]
def sH1:Str:=[104,49]
def Qy:Str:=[115,104,97,50,53,54]
def x7:Str:=[114,111,111,116]
def xF (f:Int)(x:zz):Bool:=cond (f==2||f==4) (x.alg==Qy) (cond (f==3) (x.alg==sH1) (!(x.alg==sH1)))
def vI (f:Int):Prop:=f=0∨f=1∨f=2∨f=3∨f=4
def zM (f:Int)(p:z1):z1:=⟨p.name,p.version,cond (f==3||f==4) [] p.source,p.sums.filter (xF f),cond (f==1||f==2||f==3) false p.dev,cond (f==3||f==4) [] p.zn⟩
def xB (p q:z1):Bool:=q.name==p.name&&q.dev==p.dev
def uc (f:Int)(acc:List z1)(p:z1):Bool:=(f==4&&acc.any (xB p))||((f==2&&p.name==x7)||(f==3&&p.sums.isEmpty))
def xL (f:Int):List z1→List z1→List z1
 | acc,[]=>acc
 | acc,p::r=>cond (uc f acc (zM f p)) (xL f acc r) (xL f (acc++[zM f p]) r)
theorem qd (f:Int):∀ (r acc:List z1),(xL f acc r).length≤acc.length+r.length
 | [],acc=>by rw[xL];simp
 | p::r,acc=>by
  rw[xL]
  cases uc f acc (zM f p) with
  | true=>have:=qd f r acc;rw[cond_true];simp;omega
  | false=>have:=qd f r (acc++[zM f p]);rw[cond_false];simp at this ⊢;omega
theorem Qp (f:Int)(hf:vI f)(ss:List zz)(hl:ss.length≤1048576):∀ (rest pre acc:List zz) (m:Nat) (cap:Option Nat),ss=pre++rest→m=acc.length→m+rest.length≤1073741824→∃ cap',
 EV Tryz.prog pol (.loop 147 58 0 [.t (.int .i64 f),.t (.list 2 (zz.zh ss)),.sl 0 0 m cap,.t (.int .i64 (pre.length:Int))] [.ts 2 (zz.zh acc)])
  = some (.loop (.exit 0) [.sl 0 0 (acc++rest.filter (xF f)).length cap'] [.ts 2 (zz.zh (acc++rest.filter (xF f)))])
 | [],pre,acc,m,cap,h,hm,hmM=>by
  have c:decide ((pre.length:Int)<(ss.length:Int))=false:=by simp[h]
  refine⟨cap,?_⟩
  rw[List.filter_nil,List.append_nil,← hm]
  refine zo Tryz.func147 rfl rfl ?_
  simp (disch:=((try simp only[LL]);omega)) only[↓GO,↓DRW,GA,GX,ren,zk,za,refs,z8,cst,zr,isC,bin,una,z7,zd,blt,asArg,zg,zc,zf,z6,E.mkS,unN,ze,zm,zb,GS,simprocAttr,GZ,c,zz.zj,zA]
 | x :: rest, pre, acc, m, cap, h, hm, hmM => by
  have c:decide ((pre.length:Int)<(ss.length:Int))=true:=by simp[h];omega
  have c0:decide ((0:Int)≤(pre.length:Int))=true:=by simp
  have hget:(zz.zh ss)[pre.length]? = some x.enc:=by rw[h];simp[zz.zh]
  have hlen:pre.length+rest.length+1≤ss.length:=by rw[h];simp;omega
  have hsl:(zz.zh acc).length=m:=by rw[show (zz.zh acc).length=acc.length by simp[zz.zh],hm]
  have hsl2:(zz.zh ss).length=ss.length:=by simp[zz.zh]
  simp only[List.length_cons]at hmM
  have k:xF f x=cond (f==2||f==4) (x.alg==Qy) (cond (f==3) (x.alg==sH1) (!(x.alg==sH1))):=rfl
  rw[List.filter_cons]
  cases q:xF f x with
  | true =>
   rw[q]at k
   obtain⟨cap',IH⟩:=Qp f hf ss hl rest (pre++[x]) (acc++[x]) (m+1) none (by rw[h];simp) (by simp[hm]) (by omega)
   rw[show ((pre++[x]).length:Int)=(pre.length:Int)+1 by simp,show zz.zh (acc++[x])=zz.zh acc++[x.enc] by simp[zz.zh],List.append_assoc,show [x]++rest.filter (xF f)=x::rest.filter (xF f) from rfl]at IH
   simp only[if_true]at IH ⊢
   refine⟨cap',?_⟩
   generalize acc++x::rest.filter (xF f)=Z at *
   clear h
   obtain⟨alg,bytes⟩:=x
   simp only[zz.enc,Qy,sH1]at hget IH k ⊢
   rcases hf with rfl | rfl | rfl | rfl | rfl<;>simp only[Int.reduceBEq,Bool.or_false,Bool.or_true,Bool.false_or,cond_true,cond_false]at k <;>
    (cases q1:(alg==[104,49])<;>cases q2:(alg==[115,104,97,50,53,54])<;>simp only[q1,q2,Bool.not_true,Bool.not_false,reduceCtorEq]at k)
   all_goals
    refine zo Tryz.func147 rfl rfl ?_
    simp (disch:=((try simp only[LL]);omega)) only[↓GO,↓DRW,GA,GX,ren,zk,za,refs,z8,cst,zr,isC,bin,una,z7,zd,blt,asArg,zg,zc,zf,z6,E.mkS,unN,ze,zm,zb,GS,simprocAttr,GZ,c,c0,hsl2,hget,q1,q2,bne,Bool.not_true,Bool.not_false,zq,hsl,zA,IH,ya]
  | false =>
   rw[q]at k
   obtain⟨cap',IH⟩:=Qp f hf ss hl rest (pre++[x]) acc m cap (by rw[h];simp) hm (by omega)
   rw[show ((pre++[x]).length:Int)=(pre.length:Int)+1 by simp]at IH
   simp only[Bool.false_eq_true,if_false]at IH ⊢
   refine⟨cap',?_⟩
   generalize acc++rest.filter (xF f)=Z at *
   clear h
   obtain⟨alg,bytes⟩:=x
   simp only[zz.enc,Qy,sH1]at hget IH k ⊢
   rcases hf with rfl | rfl | rfl | rfl | rfl<;>simp only[Int.reduceBEq,Bool.or_false,Bool.or_true,Bool.false_or,cond_true,cond_false]at k <;>
    (cases q1:(alg==[104,49])<;>cases q2:(alg==[115,104,97,50,53,54])<;>simp only[q1,q2,Bool.not_true,Bool.not_false,reduceCtorEq]at k)
   all_goals
    refine zo Tryz.func147 rfl rfl ?_
    simp (disch:=((try simp only[LL]);omega)) only[↓GO,↓DRW,GA,GX,ren,zk,za,refs,z8,cst,zr,isC,bin,una,z7,zd,blt,asArg,zg,zc,zf,z6,E.mkS,unN,ze,zm,zb,GS,simprocAttr,GZ,c,c0,hsl2,hget,q1,q2,bne,Bool.not_true,Bool.not_false,zq,hsl,zA,IH,ya]
theorem c_kpR (f:Int)(hf:vI f)(ss:List zz)(hl:ss.length≤1048576):zu (EV Tryz.prog pol) 147 [.t (.int .i64 f),.t (.list 2 (zz.zh ss))]=some (.t (.list 2 (zz.zh (ss.filter (xF f))))):=by
 obtain⟨cap,L⟩:=Qp f hf ss hl ss [] [] 0 (some 0) rfl rfl (by omega)
 have ht:(zz.zh (ss.filter (xF f))).take (ss.filter (xF f)).length=zz.zh (ss.filter (xF f)):=List.take_of_length_le (by simp[zz.zh])
 simp only[List.length_nil,Int.natCast_zero,List.nil_append,show zz.zh []=[] from rfl]at L
 generalize ss.filter (xF f)=Z at *
 apply zx
 refine zy rfl Tryz.func147 rfl (by kernel_rfl) ?_
 unfold Tryz.f147
 simp (disch:=((try simp only[LL]);omega)) only[↓GO,↓DRW,GA,GX,ren,zk,za,refs,z8,cst,zr,isC,bin,una,z7,zd,blt,asArg,zg,zc,zf,z6,E.mkS,unN,ze,zm,zb,GS,simprocAttr,GZ,L,ht,zA]
theorem N6 (f:Int)(hf:vI f)(p:z1)(hb:p.y6≤1048576):zu (EV Tryz.prog pol) 72 [.t (.int .i64 f),.agg (p.enc.map .t)]=some (.agg ((zM f p).enc.map .t)):=by
 have d1:=eM p hb
 have d2:=c_kpR f hf p.sums (by unfold z1.y6 at hb;omega)
 obtain⟨name,version,source,sums,dev,zn⟩:=p
 simp only[z1.enc,zM,List.map_cons,List.map_nil]at d1 d2 ⊢
 generalize sums.filter (xF f)=Z at *
 rcases hf with rfl | rfl | rfl | rfl | rfl<;>simp only[Int.reduceBEq,Bool.or_false,Bool.or_true,Bool.false_or,cond_true,cond_false]
 all_goals
  apply zx
  refine zy rfl Tryz.func72 rfl (by kernel_rfl) ?_
  unfold Tryz.f72
  simp (disch:=((try simp only[LL]);omega)) only[↓GO,↓DRW,GA,GX,ren,zk,za,refs,z8,cst,zr,isC,bin,una,z7,zd,blt,asArg,zg,zc,zf,z6,E.mkS,unN,ze,zm,zb,GS,simprocAttr,GZ,d1,d2,zA,show strs []=[] from rfl]
theorem OQ (acc:List z1)(hl:acc.length≤1048576)(p:z1):∀ (rest pre:List z1),acc=pre++rest →
 EV Tryz.prog pol (.loop 73 26 0 [.t (.int .i64 4),.t (.list 6 (z1.zh acc)),.ptr 0 0 0,.t (.int .i64 (pre.length:Int))] [.vs 6 [p.enc.map .t]])
  = some (cond (rest.any (xB p)) (.loop .ret [.t (.int .i64 4),.ptr 0 0 0,.t (.bool true)] [.vs 6 [p.enc.map .t]]) (.loop (.exit 0) [.t (.int .i64 4),.ptr 0 0 0,.bad] [.vs 6 [p.enc.map .t]]))
 | [],pre,h=>by
  have c:decide ((pre.length:Int)<(acc.length:Int))=false:=by simp[h]
  clear h
  obtain⟨name,version,source,sums,dev,zn⟩:=p
  simp only[z1.enc,List.map_cons,List.map_nil]
  refine zo Tryz.func73 rfl rfl ?_
  simp (disch:=((try simp only[LL]);omega)) only[↓GO,↓DRW,GA,GX,ren,zk,za,refs,z8,cst,zr,isC,bin,una,z7,zd,blt,asArg,zg,zc,zf,z6,E.mkS,unN,ze,zm,zb,GS,simprocAttr,GZ,c,z1.zj,zA,List.any_nil,cond_false]
 | x :: rest, pre, h => by
  have c:decide ((pre.length:Int)<(acc.length:Int))=true:=by simp[h];omega
  have c0:decide ((0:Int)≤(pre.length:Int))=true:=by simp
  have hget:(z1.zh acc)[pre.length]? = some x.enc:=by rw[h];simp[z1.zh]
  have hlen:pre.length+rest.length+1≤acc.length:=by rw[h];simp;omega
  have IH:=OQ acc hl p rest (pre++[x]) (by rw[h];simp)
  rw[show ((pre++[x]).length:Int)=(pre.length:Int)+1 by simp]at IH
  rw[List.any_cons,show xB p x=(x.name==p.name&&x.dev==p.dev) from rfl]
  clear h
  generalize rest.any (xB p)=an at *
  obtain⟨n1,v1,s1,m1,d1,k1⟩:=x
  obtain⟨n2,v2,s2,m2,d2,k2⟩:=p
  simp only[z1.enc,List.map_cons,List.map_nil]at hget IH ⊢
  cases q1:(n1==n2)<;>cases q2:(d1==d2)<;>simp only[Bool.true_and,Bool.false_and,Bool.true_or,Bool.false_or,cond_true]
  all_goals
   refine zo Tryz.func73 rfl rfl ?_
   simp (disch:=((try simp only[LL]);omega)) only[↓GO,↓DRW,GA,GX,ren,zk,za,refs,z8,cst,zr,isC,bin,una,z7,zd,blt,asArg,zg,zc,zf,z6,E.mkS,unN,ze,zm,zb,GS,simprocAttr,GZ,c,c0,z1.zj,hget,q1,q2,zq,zA,IH]
   try (refine zU (by kernel_rfl) ?_;first | rfl | simp (disch:=((try simp only[LL]);omega)) only[↓GO,↓DRW,GA,GX,ren,zk,za,refs,z8,cst,zr,isC,bin,una,z7,zd,blt,asArg,zg,zc,zf,z6,E.mkS,unN,ze,zm,zb,GS,simprocAttr,GZ,IH,zq,zA])
theorem Nf (f:Int)(hf:vI f)(acc:List z1)(hl:acc.length≤1048576)(p:z1):zu (EV Tryz.prog pol) 73 [.t (.int .i64 f),.t (.list 6 (z1.zh acc)),.agg (p.enc.map .t)]=some (.t (.bool (uc f acc p))):=by
 have L4:=OQ acc hl p acc [] rfl
 have he:(((zz.zh p.sums).length:Int)==0)=p.sums.isEmpty:=by
  rw[show (zz.zh p.sums).length=p.sums.length by simp[zz.zh]]
  cases p.sums with
  | nil=>rfl
  | cons a r=>simp;omega
 have hg:uc f acc p=((f==4&&acc.any (xB p))||((f==2&&p.name==x7)||(f==3&&p.sums.isEmpty))):=rfl
 rw[hg]
 clear hg
 simp only[List.length_nil,Int.natCast_zero]at L4
 generalize acc.any (xB p)=an at *
 obtain⟨name,version,source,sums,dev,zn⟩:=p
 simp only[z1.enc,List.map_cons,List.map_nil,x7]at L4 he ⊢
 generalize sums.isEmpty=em at *
 have h0:vI f→(f==4)=false→EV Tryz.prog pol (.loop 73 26 0 [.t (.int .i64 f),.t (.list 6 (z1.zh acc)),.ptr 0 0 0,.t (.int .i64 0)] [.vs 6 [[.t (.str name),.t (.str version),.t (.str source),.t (.list 2 (zz.zh sums)),.t (.bool dev),.t (.list 1 (strs zn))]]])
  = some (.loop (.exit 0) [.t (.int .i64 f),.ptr 0 0 0,.bad] [.vs 6 [[.t (.str name),.t (.str version),.t (.str source),.t (.list 2 (zz.zh sums)),.t (.bool dev),.t (.list 1 (strs zn))]]]):=by
  intro _ h4
  cases hq:decide ((0:Int)<(acc.length:Int))
  all_goals
   refine zo Tryz.func73 rfl rfl ?_
   simp (disch:=((try simp only[LL]);omega)) only[↓GO,↓DRW,GA,GX,ren,zk,za,refs,z8,cst,zr,isC,bin,una,z7,zd,blt,asArg,zg,zc,zf,z6,E.mkS,unN,ze,zm,zb,GS,simprocAttr,GZ,hq,h4,z1.zj,zA]
 have hw:=hf
 rcases hf with rfl | rfl | rfl | rfl | rfl
 · have L := h0 hw rfl
   simp only[Int.reduceBEq,Bool.false_and,Bool.false_or,Bool.or_false]
   apply zx
   refine zy rfl Tryz.func73 rfl (by kernel_rfl) ?_
   unfold Tryz.f73
   simp (disch:=((try simp only[LL]);omega)) only[↓GO,↓DRW,GA,GX,ren,zk,za,refs,z8,cst,zr,isC,bin,una,z7,zd,blt,asArg,zg,zc,zf,z6,E.mkS,unN,ze,zm,zb,GS,simprocAttr,GZ,L,zA]
 · have L := h0 hw rfl
   simp only[Int.reduceBEq,Bool.false_and,Bool.false_or,Bool.or_false]
   apply zx
   refine zy rfl Tryz.func73 rfl (by kernel_rfl) ?_
   unfold Tryz.f73
   simp (disch:=((try simp only[LL]);omega)) only[↓GO,↓DRW,GA,GX,ren,zk,za,refs,z8,cst,zr,isC,bin,una,z7,zd,blt,asArg,zg,zc,zf,z6,E.mkS,unN,ze,zm,zb,GS,simprocAttr,GZ,L,zA]
 · have L := h0 hw rfl
   simp only[Int.reduceBEq,Bool.false_and,Bool.true_and,Bool.false_or,Bool.or_false]
   cases q1:(name==[114,111,111,116])
   all_goals
    apply zx
    refine zy rfl Tryz.func73 rfl (by kernel_rfl) ?_
    unfold Tryz.f73
    simp (disch:=((try simp only[LL]);omega)) only[↓GO,↓DRW,GA,GX,ren,zk,za,refs,z8,cst,zr,isC,bin,una,z7,zd,blt,asArg,zg,zc,zf,z6,E.mkS,unN,ze,zm,zb,GS,simprocAttr,GZ,L,q1,zA]
 · have L := h0 hw rfl
   simp only[Int.reduceBEq,Bool.false_and,Bool.true_and,Bool.false_or,Bool.or_false]
   apply zx
   refine zy rfl Tryz.func73 rfl (by kernel_rfl) ?_
   unfold Tryz.f73
   simp (disch:=((try simp only[LL]);omega)) only[↓GO,↓DRW,GA,GX,ren,zk,za,refs,z8,cst,zr,isC,bin,una,z7,zd,blt,asArg,zg,zc,zf,z6,E.mkS,unN,ze,zm,zb,GS,simprocAttr,GZ,L,he,zA]
 · simp only [Int.reduceBEq, Bool.false_and, Bool.true_and, Bool.false_or, Bool.or_false]
   cases an with
   | true =>
    rw[cond_true]at L4
    apply zx
    refine zy rfl Tryz.func73 rfl (by kernel_rfl) ?_
    unfold Tryz.f73
    simp (disch:=((try simp only[LL]);omega)) only[↓GO,↓DRW,GA,GX,ren,zk,za,refs,z8,cst,zr,isC,bin,una,z7,zd,blt,asArg,zg,zc,zf,z6,E.mkS,unN,ze,zm,zb,GS,simprocAttr,GZ,L4,zA]
   | false =>
    rw[cond_false]at L4
    apply zx
    refine zy rfl Tryz.func73 rfl (by kernel_rfl) ?_
    unfold Tryz.f73
    simp (disch:=((try simp only[LL]);omega)) only[↓GO,↓DRW,GA,GX,ren,zk,za,refs,z8,cst,zr,isC,bin,una,z7,zd,blt,asArg,zg,zc,zf,z6,E.mkS,unN,ze,zm,zb,GS,simprocAttr,GZ,L4,zA]
def y7 (l:List z1):List Str:=l.map keyOf
theorem uL (l:List z1):(y7 l).length=l.length:=by simp[y7]
theorem Zd (l:List z1)(p:z1):strs (y7 (l++[p]))=strs (y7 l)++[[.str (keyOf p)]]:=by simp[y7,strs]
theorem py (q:zz→Bool):∀ l:List zz,(l.filter q).length≤l.length∧zz.zX (l.filter q)≤zz.zX l
 | []=>⟨Nat.le_refl _,Nat.le_refl _⟩
 | x::r=>by
  have ih:=py q r
  rw[List.filter_cons]
  cases q x with
  | true=>simp only[if_true,List.length_cons,zz.zX];omega
  | false=>simp only[Bool.false_eq_true,if_false,List.length_cons,zz.zX];omega
theorem sC (f:Int)(p:z1):(zM f p).y6≤p.y6:=by
 have h:=py (xF f) p.sums
 unfold zM
 cases (f==3||f==4)<;>simp only[cond_true,cond_false,z1.y6,List.length_nil,yg]<;>omega
theorem rn (f:Int):∀ r acc:List z1,z1.zX (xL f acc r)≤z1.zX acc+z1.zX r
 | [],acc=>by rw[xL];simp[z1.zX]
 | p :: r, acc => by
  have hp:=sC f p
  rw[xL]
  cases uc f acc (zM f p) with
  | true=>have:=rn f r acc;rw[cond_true];simp only[z1.zX];omega
  | false =>
   have h1:=rn f r (acc++[zM f p])
   have h2:∀ a:List z1,z1.zX (a++[zM f p])=z1.zX a+(zM f p).y6:=by
    intro a
    induction a with
    | nil=>simp[z1.zX]
    | cons x t ih=>simp only[List.cons_append,z1.zX,ih];omega
   rw[h2]at h1
   rw[cond_false];simp only[z1.zX];omega
set_option maxHeartbeats 1000000 in
theorem Qj (f:Int)(hf:vI f)(gt:T)(cs:List z1)(hl:cs.length≤1048576)(hb:∀ c∈cs,c.y6≤1048576):∀ (rest pre acc:List z1) (m:Nat) (cap:Option Nat),cs=pre++rest→m=acc.length→acc≠[]→m+rest.length≤1048576→∃ cap',
 EV Tryz.prog pol (.loop 14 506 0 [.t (.int .i64 f),.ptr 0 0 0,.ptr 1 0 0,.ptr 2 0 0,.sl 3 0 m cap,.t (.int .i64 (pre.length:Int))] [.vs 2 [[.t gt,.t (.list 6 (z1.zh cs))]],.vs 2 [zG],.vs 2 [[.nil 1,.sl 4 0 m none]],.ts 1 (strs (y7 acc)),.ts 6 (z1.zh acc)])
  = some (.loop (.exit 0) [.t (.int .i64 f),.ptr 0 0 0,.ptr 1 0 0,.ptr 2 0 0,.sl 3 0 (xL f acc rest).length cap'] [.vs 2 [[.t gt,.t (.list 6 (z1.zh cs))]],.vs 2 [zG],.vs 2 [[.nil 1,.sl 4 0 (xL f acc rest).length none]],.ts 1 (strs (y7 (xL f acc rest))),.ts 6 (z1.zh (xL f acc rest))])
 | [],pre,acc,m,cap,h,hm,hn,hmM=>by
  have c:decide ((pre.length:Int)<(cs.length:Int))=false:=by simp[h]
  refine⟨cap,?_⟩
  rw[xL,← hm]
  simp only[zG]
  refine zo Tryz.func14 rfl rfl ?_
  simp (disch:=((try simp only[LL]);omega)) only[↓GO,↓DRW,GA,GX,ren,zk,za,refs,z8,cst,zr,isC,bin,una,z7,zd,blt,asArg,zg,zc,zf,z6,E.mkS,unN,ze,zm,zb,GS,simprocAttr,GZ,c,z1.zj,zA]
 | x :: rest, pre, acc, m, cap, h, hm, hn, hmM => by
  have c:decide ((pre.length:Int)<(cs.length:Int))=true:=by simp[h];omega
  have c0:decide ((0:Int)≤(pre.length:Int))=true:=by simp
  have hget:(z1.zh cs)[pre.length]? = some x.enc:=by rw[h];simp[z1.zh]
  have hlen:pre.length+rest.length+1≤cs.length:=by rw[h];simp;omega
  have hsl:(z1.zh acc).length=m:=by rw[z1.zj,hm]
  have hkl:(strs (y7 acc)).length=m:=by rw[zi,uL,hm]
  have htk:(z1.zh acc).take m=z1.zh acc:=List.take_of_length_le (by omega)
  simp only[List.length_cons]at hmM
  have hxb:=hb x (by rw[h];simp)
  have hpb:=sC f x
  have d1:=N6 f hf x hxb
  have d2:=Nf f hf acc (by omega) (zM f x)
  have d3:=uB (zM f x) (by omega)
  rw[xL]
  cases q:uc f acc (zM f x) with
  | true =>
   rw[q]at d2
   obtain⟨cap',IH⟩:=Qj f hf gt cs hl hb rest (pre++[x]) acc m cap (by rw[h];simp) hm hn (by omega)
   rw[show ((pre++[x]).length:Int)=(pre.length:Int)+1 by simp]at IH
   refine⟨cap',?_⟩
   simp only[cond_true,zG]at IH ⊢
   generalize xL f acc rest=Z at *
   generalize zM f x=y at *
   clear h hb hf q
   obtain⟨name,version,source,sums,dev,zn⟩:=x
   obtain⟨name',version',source',sums',dev',needs'⟩:=y
   simp only[z1.enc,List.map_cons,List.map_nil]at d1 d2 d3 hget ⊢
   refine zo Tryz.func14 rfl rfl ?_
   simp (disch:=((try simp only[LL]);omega)) only[↓GO,↓DRW,GA,GX,ren,zk,za,refs,z8,cst,zr,isC,bin,una,z7,zd,blt,asArg,zg,zc,zf,z6,E.mkS,unN,ze,zm,zb,GS,simprocAttr,GZ,c,c0,z1.zj,hget,d1,d2,d3,htk,zq,hsl,hkl,zA,IH,ya]
  | false =>
   rw[q]at d2
   obtain⟨cap',IH⟩:=Qj f hf gt cs hl hb rest (pre++[x]) (acc++[zM f x]) (m+1) none (by rw[h];simp) (by simp[hm]) (by simp) (by omega)
   rw[show ((pre++[x]).length:Int)=(pre.length:Int)+1 by simp,sB,Zd]at IH
   refine⟨cap',?_⟩
   simp only[cond_false,zG]at IH ⊢
   generalize xL f (acc++[zM f x]) rest=Z at *
   generalize zM f x=y at *
   clear h hb hf q
   obtain⟨name,version,source,sums,dev,zn⟩:=x
   obtain⟨name',version',source',sums',dev',needs'⟩:=y
   simp only[z1.enc,List.map_cons,List.map_nil]at d1 d2 d3 hget IH ⊢
   refine zo Tryz.func14 rfl rfl ?_
   simp (disch:=((try simp only[LL]);omega)) only[↓GO,↓DRW,GA,GX,ren,zk,za,refs,z8,cst,zr,isC,bin,una,z7,zd,blt,asArg,zg,zc,zf,z6,E.mkS,unN,ze,zm,zb,GS,simprocAttr,GZ,c,c0,z1.zj,hget,d1,d2,d3,htk,zq,hsl,hkl,zA,IH,ya]
set_option maxHeartbeats 1000000 in
theorem RF (f:Int)(hf:vI f)(gt:T)(cs:List z1)(hl:cs.length≤1048576)(hb:∀ c∈cs,c.y6≤1048576):∀ (rest pre:List z1) (cap:Option Nat),cs=pre++rest →
 (xL f [] rest=[]∧∃ cap',EV Tryz.prog pol (.loop 14 506 0 [.t (.int .i64 f),.ptr 0 0 0,.ptr 1 0 0,.ptr 2 0 0,.sl 3 0 0 cap,.t (.int .i64 (pre.length:Int))] [.vs 2 [[.t gt,.t (.list 6 (z1.zh cs))]],.vs 2 [zG],.vs 2 [[.nil 1,.nil 6]],.ts 1 []])
  = some (.loop (.exit 0) [.t (.int .i64 f),.ptr 0 0 0,.ptr 1 0 0,.ptr 2 0 0,.sl 3 0 0 cap'] [.vs 2 [[.t gt,.t (.list 6 (z1.zh cs))]],.vs 2 [zG],.vs 2 [[.nil 1,.nil 6]],.ts 1 []])) ∨
 ∃ cap',EV Tryz.prog pol (.loop 14 506 0 [.t (.int .i64 f),.ptr 0 0 0,.ptr 1 0 0,.ptr 2 0 0,.sl 3 0 0 cap,.t (.int .i64 (pre.length:Int))] [.vs 2 [[.t gt,.t (.list 6 (z1.zh cs))]],.vs 2 [zG],.vs 2 [[.nil 1,.nil 6]],.ts 1 []])
  = some (.loop (.exit 0) [.t (.int .i64 f),.ptr 0 0 0,.ptr 1 0 0,.ptr 2 0 0,.sl 3 0 (xL f [] rest).length cap'] [.vs 2 [[.t gt,.t (.list 6 (z1.zh cs))]],.vs 2 [zG],.vs 2 [[.nil 1,.sl 4 0 (xL f [] rest).length none]],.ts 1 (strs (y7 (xL f [] rest))),.ts 6 (z1.zh (xL f [] rest))])
 | [],pre,cap,h=>by
  have c:decide ((pre.length:Int)<(cs.length:Int))=false:=by simp[h]
  refine .inl ⟨rfl,cap,?_⟩
  simp only[zG]
  refine zo Tryz.func14 rfl rfl ?_
  simp (disch:=((try simp only[LL]);omega)) only[↓GO,↓DRW,GA,GX,ren,zk,za,refs,z8,cst,zr,isC,bin,una,z7,zd,blt,asArg,zg,zc,zf,z6,E.mkS,unN,ze,zm,zb,GS,simprocAttr,GZ,c,z1.zj,zA]
 | x :: rest, pre, cap, h => by
  have c:decide ((pre.length:Int)<(cs.length:Int))=true:=by simp[h];omega
  have c0:decide ((0:Int)≤(pre.length:Int))=true:=by simp
  have hget:(z1.zh cs)[pre.length]? = some x.enc:=by rw[h];simp[z1.zh]
  have hlen:pre.length+rest.length+1≤cs.length:=by rw[h];simp;omega
  have hxb:=hb x (by rw[h];simp)
  have hpb:=sC f x
  have d1:=N6 f hf x hxb
  have d2:=Nf f hf [] (by simp) (zM f x)
  have d3:=uB (zM f x) (by omega)
  rw[xL]
  cases q:uc f [] (zM f x) with
  | true =>
   rw[q]at d2
   have IH:=RF f hf gt cs hl hb rest (pre++[x]) cap (by rw[h];simp)
   rw[show ((pre++[x]).length:Int)=(pre.length:Int)+1 by simp]at IH
   rw[cond_true]
   simp only[show z1.zh []=[] from rfl]at d2
   generalize xL f [] rest=Z at *
   generalize zM f x=y at *
   have hpre:pre.length≤1048576:=by omega
   clear h hb hf q
   obtain⟨name,version,source,sums,dev,zn⟩:=x
   obtain⟨name',version',source',sums',dev',needs'⟩:=y
   simp only[z1.enc,List.map_cons,List.map_nil,zG]at d1 d2 d3 hget IH ⊢
   rcases IH with⟨e,cap',IH⟩ | ⟨cap',IH⟩
   · refine .inl ⟨e, cap', ?_⟩
     refine zo Tryz.func14 rfl rfl ?_
     simp (disch:=((try simp only[LL]);omega)) only[↓GO,↓DRW,GA,GX,ren,zk,za,refs,z8,cst,zr,isC,bin,una,z7,zd,blt,asArg,zg,zc,zf,z6,E.mkS,unN,ze,zm,zb,GS,simprocAttr,GZ,c,c0,z1.zj,hget,d1,d2,d3,zq,zA,IH,ya]
   · refine .inr ⟨cap', ?_⟩
     refine zo Tryz.func14 rfl rfl ?_
     simp (disch:=((try simp only[LL]);omega)) only[↓GO,↓DRW,GA,GX,ren,zk,za,refs,z8,cst,zr,isC,bin,una,z7,zd,blt,asArg,zg,zc,zf,z6,E.mkS,unN,ze,zm,zb,GS,simprocAttr,GZ,c,c0,z1.zj,hget,d1,d2,d3,zq,zA,IH,ya]
  | false =>
   rw[q]at d2
   obtain⟨cap',IH⟩:=Qj f hf gt cs hl hb rest (pre++[x]) [zM f x] 1 none (by rw[h];simp) rfl (by simp) (by omega)
   rw[show ((pre++[x]).length:Int)=(pre.length:Int)+1 by simp,show z1.zh [zM f x]=[(zM f x).enc] from rfl,show strs (y7 [zM f x])=[[.str (keyOf (zM f x))]] from rfl]at IH
   refine .inr ⟨cap',?_⟩
   simp only[cond_false,zG,List.nil_append,show z1.zh []=[] from rfl]at d2 IH ⊢
   generalize xL f [zM f x] rest=Z at *
   generalize zM f x=y at *
   clear h hb hf q
   obtain⟨name,version,source,sums,dev,zn⟩:=x
   obtain⟨name',version',source',sums',dev',needs'⟩:=y
   simp only[z1.enc,List.map_cons,List.map_nil]at d1 d2 d3 hget IH ⊢
   refine zo Tryz.func14 rfl rfl ?_
   simp (disch:=((try simp only[LL]);omega)) only[↓GO,↓DRW,GA,GX,ren,zk,za,refs,z8,cst,zr,isC,bin,una,z7,zd,blt,asArg,zg,zc,zf,z6,E.mkS,unN,ze,zm,zb,GS,simprocAttr,GZ,c,c0,z1.zj,hget,d1,d2,d3,zq,zA,IH,ya,List.length_nil]
def xt (f:Int):Bool:=decide (0≤f)&&decide (f≤4)
theorem wy {f:Int}(h:xt f=true):vI f:=by
 unfold xt at h
 simp only[Bool.and_eq_true,decide_eq_true_eq]at h
 unfold vI
 omega
theorem vq {α:Type}(a b c d e:α):tM [a,b,c,d,e] 3=some d:=rfl
theorem vZ {α:Type}(a b c d e:α):tM [a,b,c,d,e] 4=some e:=rfl
theorem RY:zu (EV Tryz.prog pol) 69 []=some (.t (.list 1 [[.str [110,111,100,101]],[.str [121,97,114,110]],[.str [99,97,114,103,111]],[.str [103,111]],[.str [112,105,112]]])):=by
 apply zx
 refine zy rfl Tryz.func69 rfl (by kernel_rfl) ?_
 unfold Tryz.f69
 simp (disch:=((try simp only[LL]);omega)) only[↓GO,↓DRW,GA,GX,ren,zk,za,refs,z8,cst,zr,isC,bin,una,z7,zd,blt,asArg,zg,zc,zf,z6,E.mkS,unN,ze,zm,zb,GS,simprocAttr,GZ,zA]
theorem Nh (f:Int):∃ s,zu (EV Tryz.prog pol) 18 [.t (.int .i64 f)]=some (.t (.str s))∧(s==[]) = !xt f:=by
 have d1:=wG f 0 4
 have d2:=RY
 have e:B2 f 0 4=xt f:=by unfold xt B2;rfl
 rw[e]at d1
 cases q:xt f with
 | false =>
  rw[q]at d1
  refine⟨[],?_,rfl⟩
  apply zx
  refine zy rfl Tryz.func18 rfl (by kernel_rfl) ?_
  unfold Tryz.f18
  simp (disch:=((try simp only[LL]);omega)) only[↓GO,↓DRW,GA,GX,ren,zk,za,refs,z8,cst,zr,isC,bin,una,z7,zd,blt,asArg,zg,zc,zf,z6,E.mkS,unN,ze,zm,zb,GS,simprocAttr,GZ,d1,zA]
 | true =>
  rw[q]at d1
  rcases wy q with rfl | rfl | rfl | rfl | rfl
  · refine ⟨[110, 111, 100, 101], ?_, rfl⟩
    apply zx
    refine zy rfl Tryz.func18 rfl (by kernel_rfl) ?_
    unfold Tryz.f18
    simp (disch:=((try simp only[LL]);omega)) only[↓GO,↓DRW,GA,GX,ren,zk,za,refs,z8,cst,zr,isC,bin,una,z7,zd,blt,asArg,zg,zc,zf,z6,E.mkS,unN,ze,zm,zb,GS,simprocAttr,GZ,d1,d2,vq,vZ,zA]
  · refine ⟨[121, 97, 114, 110], ?_, rfl⟩
    apply zx
    refine zy rfl Tryz.func18 rfl (by kernel_rfl) ?_
    unfold Tryz.f18
    simp (disch:=((try simp only[LL]);omega)) only[↓GO,↓DRW,GA,GX,ren,zk,za,refs,z8,cst,zr,isC,bin,una,z7,zd,blt,asArg,zg,zc,zf,z6,E.mkS,unN,ze,zm,zb,GS,simprocAttr,GZ,d1,d2,vq,vZ,zA]
  · refine ⟨[99, 97, 114, 103, 111], ?_, rfl⟩
    apply zx
    refine zy rfl Tryz.func18 rfl (by kernel_rfl) ?_
    unfold Tryz.f18
    simp (disch:=((try simp only[LL]);omega)) only[↓GO,↓DRW,GA,GX,ren,zk,za,refs,z8,cst,zr,isC,bin,una,z7,zd,blt,asArg,zg,zc,zf,z6,E.mkS,unN,ze,zm,zb,GS,simprocAttr,GZ,d1,d2,vq,vZ,zA]
  · refine ⟨[103, 111], ?_, rfl⟩
    apply zx
    refine zy rfl Tryz.func18 rfl (by kernel_rfl) ?_
    unfold Tryz.f18
    simp (disch:=((try simp only[LL]);omega)) only[↓GO,↓DRW,GA,GX,ren,zk,za,refs,z8,cst,zr,isC,bin,una,z7,zd,blt,asArg,zg,zc,zf,z6,E.mkS,unN,ze,zm,zb,GS,simprocAttr,GZ,d1,d2,vq,vZ,zA]
  · refine ⟨[112, 105, 112], ?_, rfl⟩
    apply zx
    refine zy rfl Tryz.func18 rfl (by kernel_rfl) ?_
    unfold Tryz.f18
    simp (disch:=((try simp only[LL]);omega)) only[↓GO,↓DRW,GA,GX,ren,zk,za,refs,z8,cst,zr,isC,bin,una,z7,zd,blt,asArg,zg,zc,zf,z6,E.mkS,unN,ze,zm,zb,GS,simprocAttr,GZ,d1,d2,vq,vZ,zA]
def v7 (f:Int)(g:zw):zw:=cond (f==0) (wS g) g
def xm (f:Int)(g:zw):List z1:=xL f [] (v7 f g).packs
def qB (f:Int)(g:zw):zw:=⟨cond (f==0||f==2) (v7 f g).top [],xm f g⟩
theorem mE (keys:List Str):∀ cs:List z1,(yL keys cs).length≤cs.length∧z1.zX (yL keys cs)≤z1.zX cs
 | []=>⟨Nat.le_refl _,Nat.le_refl _⟩
 | p::r=>by
  have ih:=mE keys r
  unfold yL at ih ⊢
  rw[List.filter_cons]
  cases yG keys (keyOf p) with
  | true=>simp only[if_true,List.length_cons,z1.zX];omega
  | false=>simp only[Bool.false_eq_true,if_false,List.length_cons,z1.zX];omega
theorem W6 (f:Int)(g:zw)(hB:GB g):GB (v7 f g):=by
 have hk:=mE (zV g.packs g.top) g.packs
 unfold GB zw.y6 at hB ⊢
 unfold v7 wS
 cases (f==0) with
 | false=>exact hB
 | true =>
  rw[cond_true]
  cases zO g with
  | false=>exact hB
  | true=>rw[cond_true];simp only;omega
theorem QX (f:Int)(g:zw)(hB:GB g):GB (qB f g):=by
 have h:=W6 f g hB
 have h1:=qd f (v7 f g).packs []
 have h2:=rn f (v7 f g).packs []
 unfold GB zw.y6 at h ⊢
 unfold qB xm
 simp only[z1.zX,List.length_nil]at h1 h2
 cases (f==0||f==2) with
 | false=>simp only[cond_false,List.length_nil,yg];omega
 | true=>simp only[cond_true];omega
theorem TP (f:Int)(g:zw)(hB:GB g)(h:(xt f&&zO g)=false):zu (EV Tryz.prog pol) 14 [.t (.int .i64 f),.agg (g.enc.map .t)]=some (.agg (g.enc.map .t)):=by
 obtain⟨s,d1,e1⟩:=Nh f
 have d2:=pT g hB
 have d3:=W4 g hB
 obtain⟨top,packs⟩:=g
 simp only[zw.enc,List.map_cons,List.map_nil]at d2 d3 ⊢
 cases q:xt f with
 | false =>
  rw[q]at e1
  apply zx
  refine zy rfl Tryz.func14 rfl (by kernel_rfl) ?_
  unfold Tryz.f14
  simp (disch:=((try simp only[LL]);omega)) only[↓GO,↓DRW,GA,GX,ren,zk,za,refs,z8,cst,zr,isC,bin,una,z7,zd,blt,asArg,zg,zc,zf,z6,E.mkS,unN,ze,zm,zb,GS,simprocAttr,GZ,d1,e1,d3,Bool.not_false,zA]
 | true =>
  rw[q]at e1 h
  rw[Bool.true_and]at h
  rw[h]at d2
  apply zx
  refine zy rfl Tryz.func14 rfl (by kernel_rfl) ?_
  unfold Tryz.f14
  simp (disch:=((try simp only[LL]);omega)) only[↓GO,↓DRW,GA,GX,ren,zk,za,refs,z8,cst,zr,isC,bin,una,z7,zd,blt,asArg,zg,zc,zf,z6,E.mkS,unN,ze,zm,zb,GS,simprocAttr,GZ,d1,e1,d2,d3,Bool.not_true,zA]
set_option maxHeartbeats 2000000 in
theorem c_pjR (f:Int)(hf:xt f=true)(g:zw)(hB:GB g)(hg:zO g=true) :
 zu (EV Tryz.prog pol) 14 [.t (.int .i64 f),.agg (g.enc.map .t)]=some (.agg ((ti (qB f g) (y7 (xm f g))).enc.map .t)):=by
 obtain⟨s,d1,e1⟩:=Nh f
 rw[hf]at e1
 have d2:=pT g hB
 rw[hg]at d2
 have d3:=c_prR g hB
 have hf':=wy hf
 have hb:=(W6 f g hB).len
 have hpl:=qd f (v7 f g).packs []
 have d4:=Nc (qB f g) (QX f g hB) (y7 (xm f g)) (by rw[uL];unfold xm;simp only[List.length_nil]at hpl;omega)
 have L:=RF f hf' (.list 1 (strs (v7 f g).top)) (v7 f g).packs (by omega) hb.2.2 (v7 f g).packs [] (some 0) rfl
 rw[show xL f [] (v7 f g).packs=xm f g from rfl]at L
 have hbt:(v7 f g).top.length≤1048576:=by omega
 have ht1:(strs (v7 f g).top).take (v7 f g).top.length=strs (v7 f g).top:=by rw[← zi (v7 f g).top];simp
 have ht2:(z1.zh (xm f g)).take (xm f g).length=z1.zh (xm f g):=by rw[← z1.zj (xm f g)];simp
 have ht3:(strs (y7 (xm f g))).take (xm f g).length=strs (y7 (xm f g)):=by rw[← uL (xm f g),← zi (y7 (xm f g))];simp
 have e0:(f==0)=true→v7 f g=wS g:=fun h=>by unfold v7;rw[h];rfl
 have e2:(f==0)=false→v7 f g=g:=fun h=>by unfold v7;rw[h];rfl
 unfold qB at d4 ⊢
 simp only[List.length_nil,Int.natCast_zero,zG]at L
 rw[Bool.not_true]at e1
 clear hb hpl ht2 ht3
 have hKs:=z1.zj (xm f g)
 have hKk:=uL (xm f g)
 generalize xm f g=K at *
 have ht2:(z1.zh K).take K.length=z1.zh K:=List.take_of_length_le (by omega)
 have ht3:(strs (y7 K)).take K.length=strs (y7 K):=List.take_of_length_le (by rw[zi];omega)
 generalize v7 f g=bg at *
 have hgg:(f==0)=true→zu (EV Tryz.prog pol) 71 [.agg (g.enc.map .t)]=some (.agg (bg.enc.map .t)):=fun h=>by rw[e0 h];exact d3
 clear d3 e0
 rcases hf' with rfl | rfl | rfl | rfl | rfl
 all_goals
  simp only[Int.reduceBEq,Bool.true_or,Bool.or_true,Bool.false_or,Bool.or_false,cond_true,cond_false,true_implies,Bool.false_eq_true,false_implies]at d4 hgg e2 ⊢
 · generalize ti ⟨bg.top, K⟩ (y7 K) = R at *
   obtain⟨top,packs⟩:=g
   obtain⟨bt,bp⟩:=bg
   obtain⟨rt,rp⟩:=R
   simp only[zw.enc,List.map_cons,List.map_nil]at d2 hgg d4 L ht1 hbt ⊢
   rcases L with⟨eK,cap',L⟩ | ⟨cap',L⟩
   · subst eK
     simp only[show z1.zh []=[] from rfl,show strs (y7 [])=[] from rfl]at d4
     apply zx
     refine zy rfl Tryz.func14 rfl (by kernel_rfl) ?_
     unfold Tryz.f14
     simp (disch:=((try simp only[LL]);omega)) only[↓GO,↓DRW,GA,GX,ren,zk,za,refs,z8,cst,zr,isC,bin,una,z7,zd,blt,asArg,zg,zc,zf,z6,E.mkS,unN,ze,zm,zb,GS,simprocAttr,GZ,d1,e1,d2,hgg,L,d4,ht1,zi,ya,zA]
   · apply zx
     refine zy rfl Tryz.func14 rfl (by kernel_rfl) ?_
     unfold Tryz.f14
     simp (disch:=((try simp only[LL]);omega)) only[↓GO,↓DRW,GA,GX,ren,zk,za,refs,z8,cst,zr,isC,bin,una,z7,zd,blt,asArg,zg,zc,zf,z6,E.mkS,unN,ze,zm,zb,GS,simprocAttr,GZ,d1,e1,d2,hgg,L,d4,ht1,ht2,ht3,zi,ya,zA]
 · subst e2
   generalize ti ⟨[],K⟩ (y7 K)=R at *
   obtain⟨bt,bp⟩:=bg
   obtain⟨rt,rp⟩:=R
   simp only[zw.enc,List.map_cons,List.map_nil,show strs []=[] from rfl]at d2 d4 L ht1 hbt ⊢
   rcases L with⟨eK,cap',L⟩ | ⟨cap',L⟩
   · subst eK
     simp only[show z1.zh []=[] from rfl,show strs (y7 [])=[] from rfl]at d4
     apply zx
     refine zy rfl Tryz.func14 rfl (by kernel_rfl) ?_
     unfold Tryz.f14
     simp (disch:=((try simp only[LL]);omega)) only[↓GO,↓DRW,GA,GX,ren,zk,za,refs,z8,cst,zr,isC,bin,una,z7,zd,blt,asArg,zg,zc,zf,z6,E.mkS,unN,ze,zm,zb,GS,simprocAttr,GZ,d1,e1,d2,L,d4,ht1,zi,ya,zA]
   · apply zx
     refine zy rfl Tryz.func14 rfl (by kernel_rfl) ?_
     unfold Tryz.f14
     simp (disch:=((try simp only[LL]);omega)) only[↓GO,↓DRW,GA,GX,ren,zk,za,refs,z8,cst,zr,isC,bin,una,z7,zd,blt,asArg,zg,zc,zf,z6,E.mkS,unN,ze,zm,zb,GS,simprocAttr,GZ,d1,e1,d2,L,d4,ht1,ht2,ht3,zi,ya,zA]
 · subst e2
   generalize ti ⟨bg.top,K⟩ (y7 K)=R at *
   obtain⟨bt,bp⟩:=bg
   obtain⟨rt,rp⟩:=R
   simp only[zw.enc,List.map_cons,List.map_nil,show strs []=[] from rfl]at d2 d4 L ht1 hbt ⊢
   rcases L with⟨eK,cap',L⟩ | ⟨cap',L⟩
   · subst eK
     simp only[show z1.zh []=[] from rfl,show strs (y7 [])=[] from rfl]at d4
     apply zx
     refine zy rfl Tryz.func14 rfl (by kernel_rfl) ?_
     unfold Tryz.f14
     simp (disch:=((try simp only[LL]);omega)) only[↓GO,↓DRW,GA,GX,ren,zk,za,refs,z8,cst,zr,isC,bin,una,z7,zd,blt,asArg,zg,zc,zf,z6,E.mkS,unN,ze,zm,zb,GS,simprocAttr,GZ,d1,e1,d2,L,d4,ht1,zi,ya,zA]
   · apply zx
     refine zy rfl Tryz.func14 rfl (by kernel_rfl) ?_
     unfold Tryz.f14
     simp (disch:=((try simp only[LL]);omega)) only[↓GO,↓DRW,GA,GX,ren,zk,za,refs,z8,cst,zr,isC,bin,una,z7,zd,blt,asArg,zg,zc,zf,z6,E.mkS,unN,ze,zm,zb,GS,simprocAttr,GZ,d1,e1,d2,L,d4,ht1,ht2,ht3,zi,ya,zA]
 all_goals
  subst e2
  generalize ti ⟨[],K⟩ (y7 K)=R at *
  obtain⟨bt,bp⟩:=bg
  obtain⟨rt,rp⟩:=R
  simp only[zw.enc,List.map_cons,List.map_nil,show strs []=[] from rfl]at d2 d4 L ht1 hbt ⊢
  rcases L with⟨eK,cap',L⟩ | ⟨cap',L⟩
  · subst eK
    simp only[show z1.zh []=[] from rfl,show strs (y7 [])=[] from rfl]at d4
    apply zx
    refine zy rfl Tryz.func14 rfl (by kernel_rfl) ?_
    unfold Tryz.f14
    simp (disch:=((try simp only[LL]);omega)) only[↓GO,↓DRW,GA,GX,ren,zk,za,refs,z8,cst,zr,isC,bin,una,z7,zd,blt,asArg,zg,zc,zf,z6,E.mkS,unN,ze,zm,zb,GS,simprocAttr,GZ,d1,e1,d2,L,d4,ht1,zi,ya,zA]
  · apply zx
    refine zy rfl Tryz.func14 rfl (by kernel_rfl) ?_
    unfold Tryz.f14
    simp (disch:=((try simp only[LL]);omega)) only[↓GO,↓DRW,GA,GX,ren,zk,za,refs,z8,cst,zr,isC,bin,una,z7,zd,blt,asArg,zg,zc,zf,z6,E.mkS,unN,ze,zm,zb,GS,simprocAttr,GZ,d1,e1,d2,L,d4,ht1,ht2,ht3,zi,ya,zA]
def wU:List Str:=[[110,111,100,101],[121,97,114,110],[99,97,114,103,111],[103,111],[112,105,112]]
def vt (f:Int):Str:=cond (xt f) (wU.getD f.toNat []) []
def fD (s:Str):Int:=ixS s 0 wU
theorem Q0 (f:Int):zu (EV Tryz.prog pol) 18 [.t (.int .i64 f)]=some (.t (.str (vt f))):=by
 have d1:=wG f 0 4
 have d2:=RY
 have e:B2 f 0 4=xt f:=by unfold xt B2;rfl
 rw[e]at d1
 unfold vt
 cases q:xt f with
 | false =>
  rw[q]at d1
  rw[cond_false]
  apply zx
  refine zy rfl Tryz.func18 rfl (by kernel_rfl) ?_
  unfold Tryz.f18
  simp (disch:=((try simp only[LL]);omega)) only[↓GO,↓DRW,GA,GX,ren,zk,za,refs,z8,cst,zr,isC,bin,una,z7,zd,blt,asArg,zg,zc,zf,z6,E.mkS,unN,ze,zm,zb,GS,simprocAttr,GZ,d1,zA]
 | true =>
  rw[q]at d1
  rcases wy q with rfl | rfl | rfl | rfl | rfl
  all_goals
   show zu (EV Tryz.prog pol) 18 _=some (.t (.str _))
   apply zx
   refine zy rfl Tryz.func18 rfl (by kernel_rfl) ?_
   unfold Tryz.f18
   simp (disch:=((try simp only[LL]);omega)) only[↓GO,↓DRW,GA,GX,ren,zk,za,refs,z8,cst,zr,isC,bin,una,z7,zd,blt,asArg,zg,zc,zf,z6,E.mkS,unN,ze,zm,zb,GS,simprocAttr,GZ,d1,d2,vq,vZ,zA]
   rfl
theorem RZ:zu (EV Tryz.prog pol) 79 []=some (.t (.list 1 (strs wU))):=by
 apply zx
 refine zy rfl Tryz.func79 rfl (by kernel_rfl) ?_
 unfold Tryz.f79
 simp (disch:=((try simp only[LL]);omega)) only[↓GO,↓DRW,GA,GX,ren,zk,za,refs,z8,cst,zr,isC,bin,una,z7,zd,blt,asArg,zg,zc,zf,z6,E.mkS,unN,ze,zm,zb,GS,simprocAttr,GZ,zA]
 rfl
theorem Me (f:Int):zu (EV Tryz.prog pol) 17 [.t (.int .i64 f)]=some (.t (.str (vt f))):=by
 have d1:=wO f 0 4
 have d2:=RZ
 have e:B2 f 0 4=xt f:=by unfold xt B2;rfl
 rw[e]at d1
 rw[show strs wU=[[.str [110,111,100,101]],[.str [121,97,114,110]],[.str [99,97,114,103,111]],[.str [103,111]],[.str [112,105,112]]] from rfl]at d2
 unfold vt
 cases q:xt f with
 | false =>
  rw[q]at d1
  rw[cond_false]
  apply zx
  refine zy rfl Tryz.func17 rfl (by kernel_rfl) ?_
  unfold Tryz.f17
  simp (disch:=((try simp only[LL]);omega)) only[↓GO,↓DRW,GA,GX,ren,zk,za,refs,z8,cst,zr,isC,bin,una,z7,zd,blt,asArg,zg,zc,zf,z6,E.mkS,unN,ze,zm,zb,GS,simprocAttr,GZ,d1,zA]
 | true =>
  rw[q]at d1
  rcases wy q with rfl | rfl | rfl | rfl | rfl
  all_goals
   apply zx
   refine zy rfl Tryz.func17 rfl (by kernel_rfl) ?_
   unfold Tryz.f17
   simp (disch:=((try simp only[LL]);omega)) only[↓GO,↓DRW,GA,GX,ren,zk,za,refs,z8,cst,zr,isC,bin,una,z7,zd,blt,asArg,zg,zc,zf,z6,E.mkS,unN,ze,zm,zb,GS,simprocAttr,GZ,d1,d2,vq,vZ,zA]
   rfl
theorem Ng (s:Str):zu (EV Tryz.prog pol) 19 [.t (.str s)]=some (.t (.int .i64 (fD s))):=by
 have d1:=RZ
 have d2:=c_ix s wU (by decide)
 unfold fD
 generalize ixS s 0 wU=x at *
 generalize strs wU=E0 at *
 apply zx
 refine zy rfl Tryz.func19 rfl (by kernel_rfl) ?_
 unfold Tryz.f19
 simp (disch:=((try simp only[LL]);omega)) only[↓GO,↓DRW,GA,GX,ren,zk,za,refs,z8,cst,zr,isC,bin,una,z7,zd,blt,asArg,zg,zc,zf,z6,E.mkS,unN,ze,zm,zb,GS,simprocAttr,GZ,d1,d2,zA]
theorem OR (s:Str):∀ (rest pre:List Str),wU=pre++rest →
 EV Tryz.prog pol (.loop 20 26 0 [.t (.str s),.t (.int .i64 (pre.length:Int))] [])=some (cond (decide (ixS s pre.length rest≥0)) (.loop .ret [.t (.int .i64 (ixS s pre.length rest))] []) (.loop (.exit 0) [.bad] []))
 | [],pre,hs=>by
  have h5:pre.length=5:=by have:=congrArg List.length hs;simpa [wU] using this.symm
  have c:decide ((pre.length:Int)<5)=false:=by rw[h5];rfl
  rw[ixS]
  refine zo Tryz.func20 rfl rfl ?_
  simp (disch:=((try simp only[LL]);omega)) only[↓GO,↓DRW,GA,GX,ren,zk,za,refs,z8,cst,zr,isC,bin,una,z7,zd,blt,asArg,zg,zc,zf,z6,E.mkS,unN,ze,zm,zb,GS,simprocAttr,GZ,c,zA]
 | x :: rest, pre, hs => by
  have h5:pre.length+rest.length+1=5:=by have:=congrArg List.length hs;simp[wU]at this;omega
  have c:decide ((pre.length:Int)<5)=true:=by apply decide_eq_true;omega
  have d1:=Q0 (pre.length:Int)
  have hx:vt (pre.length:Int)=x:=by
   have hi:xt (pre.length:Int)=true:=by unfold xt;simp;omega
   unfold vt
   rw[hi,cond_true,Int.toNat_natCast,hs]
   simp
  rw[hx]at d1
  have IH:=OR s rest (pre++[x]) (by rw[hs];simp)
  rw[show ((pre++[x]).length:Int)=(pre.length:Int)+1 by simp,show (pre++[x]).length=pre.length+1 by simp]at IH
  rw[ixS]
  clear hs hx
  cases q:(x==s) with
  | true =>
   have c2:decide ((pre.length:Int)≥0)=true:=by apply decide_eq_true;omega
   rw[cond_true,c2,cond_true]
   refine zo Tryz.func20 rfl rfl ?_
   simp (disch:=((try simp only[LL]);omega)) only[↓GO,↓DRW,GA,GX,ren,zk,za,refs,z8,cst,zr,isC,bin,una,z7,zd,blt,asArg,zg,zc,zf,z6,E.mkS,unN,ze,zm,zb,GS,simprocAttr,GZ,c,d1,q,zA]
  | false =>
   rw[cond_false]
   generalize cond (decide (ixS s (pre.length+1) rest≥0)) (wk.loop .ret [.t (.int .i64 (ixS s (pre.length+1) rest))] []) (.loop (.exit 0) [.bad] [])=Z at *
   refine zo Tryz.func20 rfl rfl ?_
   simp (disch:=((try simp only[LL]);omega)) only[↓GO,↓DRW,GA,GX,ren,zk,za,refs,z8,cst,zr,isC,bin,una,z7,zd,blt,asArg,zg,zc,zf,z6,E.mkS,unN,ze,zm,zb,GS,simprocAttr,GZ,c,d1,q,zq,zA,IH]
theorem c_foR (s:Str):zu (EV Tryz.prog pol) 20 [.t (.str s)]=some (.t (.int .i64 (fD s))):=by
 have L:=OR s wU [] rfl
 simp only[List.length_nil,Int.natCast_zero]at L
 unfold fD
 cases q:decide (ixS s 0 wU≥0) with
 | true =>
  rw[q,cond_true]at L
  generalize ixS s 0 wU=x at *
  apply zx
  refine zy rfl Tryz.func20 rfl (by kernel_rfl) ?_
  unfold Tryz.f20
  simp (disch:=((try simp only[LL]);omega)) only[↓GO,↓DRW,GA,GX,ren,zk,za,refs,z8,cst,zr,isC,bin,una,z7,zd,blt,asArg,zg,zc,zf,z6,E.mkS,unN,ze,zm,zb,GS,simprocAttr,GZ,L,zA]
 | false =>
  rw[q,cond_false]at L
  have e:ixS s 0 wU = -1:=by
   rcases ec s wU 0 with h | h
   · exact h
   · have h2 := of_decide_eq_false q
     omega
  rw[e]
  apply zx
  refine zy rfl Tryz.func20 rfl (by kernel_rfl) ?_
  unfold Tryz.f20
  simp (disch:=((try simp only[LL]);omega)) only[↓GO,↓DRW,GA,GX,ren,zk,za,refs,z8,cst,zr,isC,bin,una,z7,zd,blt,asArg,zg,zc,zf,z6,E.mkS,unN,ze,zm,zb,GS,simprocAttr,GZ,L,zA]
theorem TA (f:Int)(h:xt f=true):fD (vt f)=f:=by
 rcases wy h with rfl | rfl | rfl | rfl | rfl<;>rfl
theorem NO (f:Int):(vt f==[]) = !xt f:=by
 cases h:xt f with
 | false=>unfold vt;rw[h];rfl
 | true=>rcases wy h with rfl | rfl | rfl | rfl | rfl<;>rfl
theorem Q1 (bs:List Int)(hb:okB bs)(c:Cs)(hc:cok bs c):∃ (f:Int) (c':Cs),cok bs c'∧EV Tryz.prog pol (.callO false 49 [.ptr 0 0 0] [cuR bs c])=some (.call (.t (.int .i64 f)) [cuR bs c']):=by
 obtain⟨b,c1,hc1,d0⟩:=uA bs hb c hc 12 (by decide) (by decide)
 simp only[Int.cast_ofNat_Int]at d0
 cases b with
 | true =>
  obtain⟨f,c2,hf,hc2,d1⟩:=sR bs hb c1 hc1 [-1,5,9] 3 rfl (by decide) (by decide) (some 3)
  refine⟨f,c2,hc2,?_⟩
  simp only[pJ,List.map_cons,List.map_nil]at d1
  unfold cuR at *
  clear hb hf
  refine zH Tryz.func49 rfl (by kernel_rfl) ?_
  unfold Tryz.f49
  simp (maxSteps:=1000000) (disch:=((try simp only[LL]);omega)) only[↓GO,↓DRW,GA,GX,ren,zk,za,refs,z8,cst,zr,isC,bin,una,z7,zd,blt,asArg,zg,zc,zf,z6,E.mkS,unN,ze,zm,zb,GS,simprocAttr,zB,zC,yB,yr,yv,yu,yC,gh1,yq,yh,yk,zL,mkO,yf,y8,y9,mvC,unO,zR,yz,yt,yo,zI,yp,yn,zY,oc,oTs,oT,zK,zK.rowTs,yj,isL,E.BX,GZ,d0,d1,zA]
  all_goals (repeat (refine zU (by kernel_rfl) ?_))
  all_goals first | rfl
 | false =>
  obtain⟨k,c2,hk,hc2,d1⟩:=pM bs hb c1 hc1 5 (by decide) (by decide)
  simp only[Int.cast_ofNat_Int]at d1
  refine⟨k,c2,hc2,?_⟩
  unfold cuR at *
  clear hb hk
  refine zH Tryz.func49 rfl (by kernel_rfl) ?_
  unfold Tryz.f49
  simp (maxSteps:=1000000) (disch:=((try simp only[LL]);omega)) only[↓GO,↓DRW,GA,GX,ren,zk,za,refs,z8,cst,zr,isC,bin,una,z7,zd,blt,asArg,zg,zc,zf,z6,E.mkS,unN,ze,zm,zb,GS,simprocAttr,zB,zC,yB,yr,yv,yu,yC,gh1,yq,yh,yk,zL,mkO,yf,y8,y9,mvC,unO,zR,yz,yt,yo,zI,yp,yn,zY,oc,oTs,oT,zK,zK.rowTs,yj,isL,E.BX,GZ,d0,d1,zA]
  all_goals (repeat (refine zU (by kernel_rfl) ?_))
  all_goals first | rfl
theorem ak (code:List Int)(hb:okB code):∃ (f:Int) (g:zw),GSm g∧zu (EV Tryz.prog pol) 7 [.t (.list 1 (xE code))]=some (.tup [.t (.int .i64 f),.agg (g.enc.map .t)]):=by
 obtain⟨h,d0⟩:=Qu code hb
 obtain⟨f,c1,hc1,d1⟩:=Q1 code hb (0,h) (Nat.zero_le _)
 obtain⟨c2,g,hc2,hg,d2⟩:=c_any code hb c1 hc1
 refine⟨f,g,hg,?_⟩
 simp only[zw.enc,List.map_cons,List.map_nil]at d2 ⊢
 unfold cuR at *
 simp only[Int.natCast_zero]at d0 d1
 clear hb hg
 apply zx
 refine zy rfl Tryz.func7 rfl (by kernel_rfl) ?_
 unfold Tryz.f7
 simp (maxSteps:=1000000) (disch:=((try simp only[LL]);omega)) only[↓GO,↓DRW,GA,GX,ren,zk,za,refs,z8,cst,zr,isC,bin,una,z7,zd,blt,asArg,zg,zc,zf,z6,E.mkS,unN,ze,zm,zb,GS,simprocAttr,zB,zC,yB,yr,yv,yu,yC,gh1,yq,yh,yk,zL,mkO,yf,y8,y9,mvC,unO,zR,yz,yt,yo,zI,yp,yn,zY,oc,oTs,oT,zK,zK.rowTs,yj,isL,E.BX,GZ,d0,d1,d2,zA]
theorem TW (code:List Int)(hb:okB code):∃ (f:Int) (g:zw),GSm g∧zu (EV Tryz.prog pol) 9 [.t (.list 1 (xE code))]=some (.tup [.t (.int .i64 f),.agg (g.enc.map .t)]):=by
 obtain⟨f,g,hg,d⟩:=ak code hb
 refine⟨f,g,hg,?_⟩
 simp only[zw.enc,List.map_cons,List.map_nil]at d ⊢
 apply zx
 refine zy rfl Tryz.func9 rfl (by kernel_rfl) ?_
 unfold Tryz.f9
 simp (disch:=((try simp only[LL]);omega)) only[↓GO,↓DRW,GA,GX,ren,zk,za,refs,z8,cst,zr,isC,bin,una,z7,zd,blt,asArg,zg,zc,zf,z6,E.mkS,unN,ze,zm,zb,GS,simprocAttr,GZ,d,zA]
theorem TY (code:List Int)(hb:okB code):∃ f:Int,zu (EV Tryz.prog pol) 11 [.t (.list 1 (xE code))]=some (.t (.int .i64 f)):=by
 obtain⟨h,d0⟩:=Qu code hb
 obtain⟨f,c1,hc1,d1⟩:=Q1 code hb (0,h) (Nat.zero_le _)
 refine⟨f,?_⟩
 unfold cuR at *
 simp only[Int.natCast_zero]at d0 d1
 apply zx
 refine zy rfl Tryz.func11 rfl (by kernel_rfl) ?_
 unfold Tryz.f11
 simp (maxSteps:=1000000) (disch:=((try simp only[LL]);omega)) only[↓GO,↓DRW,GA,GX,ren,zk,za,refs,z8,cst,zr,isC,bin,una,z7,zd,blt,asArg,zg,zc,zf,z6,E.mkS,unN,ze,zm,zb,GS,simprocAttr,zB,zC,yB,yr,yv,yu,yC,gh1,yq,yh,yk,zL,mkO,yf,y8,y9,mvC,unO,zR,yz,yt,yo,zI,yp,yn,zY,oc,oTs,oT,zK,zK.rowTs,yj,isL,E.BX,GZ,d0,d1,zA]
theorem M7:EV Tryz.prog pol (.callO false 69 [] [])=some (.call (.sl 0 0 5 (some 5)) [.ts 1 [[.str [110,111,100,101]],[.str [121,97,114,110]],[.str [99,97,114,103,111]],[.str [103,111]],[.str [112,105,112]]]]):=by
 refine zH Tryz.func69 rfl (by kernel_rfl) ?_
 unfold Tryz.f69
 simp (disch:=((try simp only[LL]);omega)) only[↓GO,↓DRW,GA,GX,ren,zk,za,refs,z8,cst,zr,isC,bin,una,z7,zd,blt,asArg,zg,zc,zf,z6,E.mkS,unN,ze,zm,zb,GS,simprocAttr,GZ,zA]
theorem TX (code:List Int)(hb:okB code):∃ s:Str,zu (EV Tryz.prog pol) 12 [.t (.list 1 (xE code))]=some (.t (.str s)):=by
 obtain⟨h,d0⟩:=Qu code hb
 obtain⟨s,c1,hs,hc1,d1⟩:=te code hb (0,h) (Nat.zero_le _) (wU++[[],[110,112,109],[71,111]]) 8 rfl (by decide) (by decide) none
 have d2:=M7
 refine⟨s,?_⟩
 rw[show strs (wU++[[],[110,112,109],[71,111]])=[[.str [110,111,100,101]],[.str [121,97,114,110]],[.str [99,97,114,103,111]],[.str [103,111]],[.str [112,105,112]],[.str []],[.str [110,112,109]],[.str [71,111]]] from rfl]at d1
 unfold cuR at *
 simp only[Int.natCast_zero]at d0 d1
 clear hs
 apply zx
 refine zy rfl Tryz.func12 rfl (by kernel_rfl) ?_
 unfold Tryz.f12
 simp (maxSteps:=1000000) (disch:=((try simp only[LL]);omega)) only[↓GO,↓DRW,GA,GX,ren,zk,za,refs,z8,cst,zr,isC,bin,una,z7,zd,blt,asArg,zg,zc,zf,z6,E.mkS,unN,ze,zm,zb,GS,simprocAttr,zB,zC,yB,yr,yv,yu,yC,gh1,yq,yh,yk,zL,mkO,yf,y8,y9,mvC,unO,zR,yz,yt,yo,zI,yp,yn,zY,oc,oTs,oT,zK,zK.rowTs,yj,isL,E.BX,GZ,d0,d1,d2,ya,List.cons_append,List.nil_append,zA]
def rootKey (k:Str):Bool:=(uj k).1==x7
def yT (p:z1):z1:=⟨p.name,p.version,p.source,p.sums,p.dev,p.zn.filter fun k=>!rootKey k⟩
def x8 (a:Str)(p:z1):Bool:=p.sums.any fun s=>s.alg==a
def xS:List z1→List z1→List z1
 | acc,[]=>acc
 | acc,p::r=>cond (acc.any (xB p)) (xS acc r) (xS (acc++[p]) r)
def oM (f:Int)(g:zw):List z1 :=
 cond (f==0) (yL (zV g.packs g.top) g.packs) (cond (f==2) ((g.packs.filter fun p=>!(p.name==x7)).map yT) (cond (f==3) (g.packs.filter (x8 sH1)) (cond (f==4) (xS [] g.packs) g.packs)))
def UN (f:Int)(g:zw):List Str:=cond (f==0) g.top (cond (f==2) (g.top.filter fun k=>!rootKey k) [])
def xn (f:Int)(g:zw):zw:=⟨UN f g,(oM f g).map (zM f)⟩
theorem tU (f:Int)(l:List z1):y7 (l.map (zM f))=y7 l:=by
 unfold y7
 rw[List.map_map]
 rfl
theorem wV (l:List z1)(k:Str):k∈y7 l↔∃ p∈l,keyOf p=k:=by simp[y7]
theorem mq (K:List z1):xC (y7 K) K=K.map (qC (y7 K)):=by
 unfold xC
 rw[filter_all]
 intro x hx
 rw[xK,wV]
 exact⟨x,hx,rfl⟩
theorem vV (f:Int)(hf:(f==4)=false):∀ r acc:List z1,xL f acc r=acc++(r.map (zM f)).filter (fun p=>!uc f [] p)
 | [],acc=>by simp[xL]
 | p::r,acc=>by
  have e:uc f acc (zM f p)=uc f [] (zM f p):=by unfold uc;rw[hf];simp
  rw[xL,e,List.map_cons,List.filter_cons]
  cases uc f [] (zM f p) with
  | true=>rw[cond_true,vV f hf r acc];simp
  | false=>rw[cond_false,vV f hf r (acc++[zM f p])];simp
theorem gone4 (acc:List z1)(p:z1):uc 4 (acc.map (zM 4)) (zM 4 p)=acc.any (xB p):=by
 unfold uc
 have h:(acc.map (zM 4)).any (xB (zM 4 p))=acc.any (xB p):=by
  rw[List.any_map]
  rfl
 rw[h]
 simp
theorem fT:∀ r acc:List z1,xL 4 (acc.map (zM 4)) r=(xS acc r).map (zM 4)
 | [],acc=>by rw[xL,xS]
 | p :: r, acc => by
  rw[xL,xS,gone4]
  cases acc.any (xB p) with
  | true=>rw[cond_true,cond_true,fT r acc]
  | false =>
   rw[cond_false,cond_false,← fT r (acc++[p])]
   simp
theorem sF {ps:List z1}{l:List Str}(h:xD ps none l=true):∀ k∈l,∃ q∈ps,keyOf q=k:=fun k hk=>by
 have h1:=(vo ps none l h).2.1 k hk
 unfold mV at h1
 rw[List.any_eq_true]at h1
 obtain⟨q,h2,h3⟩:=h1
 exact⟨q,h2,by simpa using h3⟩
theorem OC {g:zw}(h:zO g=true):xD g.packs none g.top=true:=by
 unfold zO at h
 simp only[Bool.and_eq_true]at h
 exact h.2.2
theorem WY {K:List z1}{p:z1}(h:∀ k∈p.zn,k∈y7 K):qC (y7 K) p=p:=by
 have e:p.zn.filter (yG (y7 K))=p.zn:=filter_all _ _ fun k hk=>(xK _ _).2 (h k hk)
 unfold qC
 rw[e]
theorem ou {K:List z1}(h:∀ p∈K,∀ k∈p.zn,k∈y7 K):xC (y7 K) K=K:=by
 rw[mq]
 conv=>rhs;rw[← List.map_id K]
 exact List.map_congr_left fun p hp=>WY (h p hp)
theorem kH {g:zw}(hg:zO g=true){k:Str}(hk:∃ q∈g.packs,keyOf q=k):yG (y7 (g.packs.filter fun p=>!(p.name==x7))) k = !rootKey k:=by
 obtain⟨q,hq,rfl⟩:=hk
 have hr:rootKey (keyOf q)=(q.name==x7):=by
  unfold rootKey
  rw[eW (w4 hg q hq).1]
 rw[hr]
 cases hn:q.name==x7 with
 | true =>
  cases hc:yG (y7 (g.packs.filter fun p=>!(p.name==x7))) (keyOf q) with
  | false=>rfl
  | true =>
   rw[xK,wV]at hc
   obtain⟨p,hp,e⟩:=hc
   obtain⟨hp1,hp2⟩:=List.mem_filter.1 hp
   have:=(yR hg).key p hp1 q hq e
   subst this
   rw[hn]at hp2
   cases hp2
 | false =>
  rw[Bool.not_false,xK,wV]
  exact⟨q,List.mem_filter.2 ⟨hq,by rw[hn];rfl⟩,rfl⟩
theorem gW (f:Int)(r:z1→Bool)(hr:∀ p,r (zM f p)=r p)(l:List z1):(l.map (zM f)).filter r=(l.filter r).map (zM f):=by
 rw[List.filter_map]
 congr 1
 exact List.filter_congr fun x _=>hr x
theorem NN (p:z1):(zM 3 p).sums.isEmpty = !x8 sH1 p:=by
 show (p.sums.filter (xF 3)).isEmpty=_
 unfold x8
 generalize p.sums=l
 induction l with
 | nil=>rfl
 | cons s r ih =>
  rw[List.filter_cons,List.any_cons]
  have h:xF 3 s=(s.alg==sH1):=rfl
  rw[h]
  cases s.alg==sH1 with
  | true=>rfl
  | false=>simpa using ih
theorem Rx {f:Int}(hf:f=3∨f=4)(l:List z1):∀ p∈l.map (zM f),∀ k∈p.zn,k∈y7 (l.map (zM f)):=fun p hp k hk=>by
 obtain⟨q,_,rfl⟩:=List.mem_map.1 hp
 rcases hf with rfl | rfl
 · simp[zM]at hk
 · simp[zM]at hk
theorem WM (f:Int)(hf:vI f)(g:zw)(hg:zO g=true):ti (qB f g) (y7 (xm f g))=xn f g:=by
 have hpk:=w4 hg
 have htop:=sF (OC hg)
 have hneed:∀ p∈g.packs,∀ k∈p.zn,∃ q∈g.packs,keyOf q=k:=fun p hp=>sF (hpk p hp).2
 rcases hf with rfl | rfl | rfl | rfl | rfl
 · have hb : v7 0 g = ⟨g.top, yL (zV g.packs g.top) g.packs⟩ := by
    show wS g=_
    unfold wS;rw[hg];rfl
   have hK:xm 0 g=(yL (zV g.packs g.top) g.packs).map (zM 0):=by
    unfold xm
    rw[vV 0 rfl,hb,List.nil_append]
    exact filter_all _ _ fun x _=>rfl
   have hin:∀ k,k∈zV g.packs g.top→(∃ q∈g.packs,keyOf q=k)→k∈y7 (xm 0 g):=fun k h1 ⟨q,h2,h3⟩=>by
    rw[hK,tU,wV]
    exact⟨q,List.mem_filter.2 ⟨h2,by rw[xK,h3];exact h1⟩,h3⟩
   have hfs:∀ k,(∃ q∈g.packs,keyOf q=k)→(yS g.packs k).isSome=true:=fun k ⟨q,h2,h3⟩=>by
    rw[← h3,w7 (yR hg) h2];rfl
   unfold xn ti qB
   show zw.mk ((v7 0 g).top.filter _) (xC (y7 (xm 0 g)) (xm 0 g))=zw.mk g.top ((yL (zV g.packs g.top) g.packs).map (zM 0))
   congr 1
   · rw [hb]
     exact filter_all _ _ fun k hk=>(xK _ _).2 (hin k (uR _ _ k hk (hfs k (htop k hk))) (htop k hk))
   · rw [← hK]
     refine ou fun p hp k hk=>?_
     rw[hK]at hp
     obtain⟨q,hq,rfl⟩:=List.mem_map.1 hp
     obtain⟨hq1,hq2⟩:=List.mem_filter.1 hq
     rw[xK]at hq2
     have hk':k∈q.zn:=hk
     have hx:=hneed q hq1 k hk'
     exact hin k (vc _ _ (keyOf q) q k hq2 (w7 (yR hg) hq1) hk' (hfs k hx)) hx
 · have hK : xm 1 g = g.packs.map (zM 1) := by
    unfold xm
    rw[vV 1 rfl,List.nil_append]
    exact filter_all _ _ fun x _=>rfl
   unfold xn ti qB
   show zw.mk (List.filter _ []) (xC (y7 (xm 1 g)) (xm 1 g))=zw.mk [] (g.packs.map (zM 1))
   congr 1
   rw[← hK]
   refine ou fun p hp k hk=>?_
   rw[hK]at hp ⊢
   obtain⟨q,hq,rfl⟩:=List.mem_map.1 hp
   rw[tU,wV]
   exact hneed q hq k hk
 · have hK : xm 2 g = (g.packs.filter fun p => !(p.name == x7)).map (zM 2) := by
    unfold xm
    rw[vV 2 rfl,List.nil_append]
    exact gW 2 (fun p=>!uc 2 [] p) (fun _=>rfl) g.packs |>.trans (by
     congr 1
     refine List.filter_congr fun p _=>?_
     simp[uc])
   unfold xn ti qB
   show zw.mk (g.top.filter (yG (y7 (xm 2 g)))) (xC (y7 (xm 2 g)) (xm 2 g))=zw.mk (g.top.filter fun k=>!rootKey k) (((g.packs.filter fun p=>!(p.name==x7)).map yT).map (zM 2))
   have hkk:y7 (xm 2 g)=y7 (g.packs.filter fun p=>!(p.name==x7)):=by rw[hK,tU]
   rw[mq,hkk,hK]
   congr 1
   · exact List.filter_congr fun k hk=>kH hg (htop k hk)
   · rw [List.map_map, List.map_map]
     refine List.map_congr_left fun p hp=>?_
     obtain⟨hp1,_⟩:=List.mem_filter.1 hp
     have e:p.zn.filter (yG (y7 (g.packs.filter fun p=>!(p.name==x7))))=p.zn.filter fun k=>!rootKey k:=List.filter_congr fun k hk=>kH hg (hneed p hp1 k hk)
     show z1.mk _ _ _ _ _ (p.zn.filter _)=z1.mk _ _ _ _ _ _
     rw[e]
     rfl
 · have hK : xm 3 g = (g.packs.filter (x8 sH1)).map (zM 3) := by
    unfold xm
    rw[vV 3 rfl,List.nil_append]
    rw[List.filter_map]
    congr 1
    refine List.filter_congr fun p _=>?_
    show (!uc 3 [] (zM 3 p))=_
    have h:=NN p
    unfold uc
    rw[h]
    simp
   unfold xn ti qB
   show zw.mk (List.filter _ []) (xC (y7 (xm 3 g)) (xm 3 g))=zw.mk [] ((g.packs.filter (x8 sH1)).map (zM 3))
   congr 1
   rw[hK]
   exact ou (Rx (.inl rfl) _)
 · have hK : xm 4 g = (xS [] g.packs).map (zM 4) := fT g.packs []
   unfold xn ti qB
   show zw.mk (List.filter _ []) (xC (y7 (xm 4 g)) (xm 4 g))=zw.mk [] ((xS [] g.packs).map (zM 4))
   congr 1
   rw[hK]
   exact ou (Rx (.inr rfl) _)
def jo:Str:=[103,111,110,101]
def l6:Str:=[115,111,117,114,99,101]
def Wd:Str:=[115,117,109,115]
def Ol:Str:=[100,101,118]
def eD:Str:=[110,101,101,100,115]
def YK:Str:=[116,111,112]
def yZ (p q:z1):Str:=cond (p.source==q.source) (cond (xA p.sums==xA q.sums) (cond (p.dev==q.dev) (cond (p.zn==q.zn) [] eD) Ol) Wd) l6
def xb (p q:z1):Str:=cond (p.source==q.source) (cond ((p.sums.length:Int)==(q.sums.length:Int)) (cond (p.dev==q.dev) (cond ((p.zn.length:Int)==(q.zn.length:Int)) [] eD) Ol) Wd) l6
def yV (l:z1→z1→Str)(h:zw)(p:z1):Str:=match yS h.packs (keyOf p) with
 | none=>jo
 | some q=>l p q
def vH (l:z1→z1→Str)(h:zw)(p:z1):List Str:=cond (yV l h p==[]) [] [(keyOf p++[32])++yV l h p]
def wY (l:z1→z1→Str)(h g:zw):List Str:=cond (g.top==h.top) [] [YK]++g.packs.flatMap (vH l h)
theorem gd {α:Type}(f:α→Bool)(l:List α)(h:l.length=(l.filter f).length):l.filter f=l:=by
 induction l with
 | nil=>rfl
 | cons x r ih =>
  rw[List.filter_cons]at h ⊢
  have hle:=List.length_filter_le f r
  cases hx:f x with
  | true =>
   rw[hx]at h
   simp only[if_true,List.length_cons]at h ⊢
   rw[ih (by omega)]
  | false =>
   rw[hx]at h
   simp only[Bool.false_eq_true,if_false,List.length_cons]at h
   omega
theorem lenI {a b:Nat}(h:a≠b):((a:Int)==(b:Int))=false:=by rw[beq_eq_false_iff_ne];omega
theorem Xh {a b:Nat}(h:a=b):((a:Int)==(b:Int))=true:=by rw[h];simp
theorem US (f:zz→Bool)(l:List zz):(xA l==xA (l.filter f))=((l.length:Int)==((l.filter f).length:Int)):=by
 by_cases h:l.length=(l.filter f).length
 · rw[Xh h,gd f l h];simp
 · rw [lenI h, beq_eq_false_iff_ne]
   intro e
   exact h (by rw[← uH l,e,uH])
theorem WX (f:Str→Bool)(l:List Str):(l==l.filter f)=((l.length:Int)==((l.filter f).length:Int)):=by
 by_cases h:l.length=(l.filter f).length
 · rw[Xh h,gd f l h];simp
 · rw [lenI h, beq_eq_false_iff_ne]
   intro e
   exact h (congrArg List.length e)
def Part (p q:z1):Prop:=(∃ f,q.sums=p.sums.filter f)∧∃ f,q.zn=p.zn.filter f
theorem lX {p q:z1}(h:Part p q):yZ p q=xb p q:=by
 obtain⟨⟨f,h1⟩,k,h2⟩:=h
 unfold yZ xb
 rw[h1,h2,US,WX]
theorem Part.refl (p:z1):Part p p:=⟨⟨fun _=>true,(List.filter_eq_self.2 fun _ _=>rfl).symm⟩,fun _=>true,(List.filter_eq_self.2 fun _ _=>rfl).symm⟩
theorem Part.zM (f:Int)(p:z1):Part p (zM f p):=by
 refine⟨⟨xF f,rfl⟩,?_⟩
 show ∃ k,cond (f==3||f==4) [] p.zn=p.zn.filter k
 cases (f==3||f==4) with
 | true=>exact⟨fun _=>false,(List.filter_eq_nil_iff.2 fun _ _=>by decide).symm⟩
 | false=>exact⟨fun _=>true,(List.filter_eq_self.2 fun _ _=>rfl).symm⟩
theorem ep:∀ (r acc:List z1) (x:z1),x∈xS acc r→x∈acc∨x∈r
 | [],acc,x,h=>by rw[xS]at h;exact .inl h
 | p :: r, acc, x, h => by
  rw[xS]at h
  cases hc:acc.any (xB p) with
  | true =>
   rw[hc,cond_true]at h
   rcases ep r acc x h with h | h
   · exact .inl h
   · exact .inr (List.mem_cons_of_mem _ h)
  | false =>
   rw[hc,cond_false]at h
   rcases ep r _ x h with h | h
   · rcases List.mem_append.1 h with h | h
     · exact .inl h
     · exact .inr (by rw[List.mem_singleton.1 h];simp)
   · exact .inr (List.mem_cons_of_mem _ h)
theorem YT (f:Int)(g:zw)(x:z1)(h:x∈oM f g):x∈g.packs∨(f=2∧∃ p∈g.packs,x=yT p):=by
 unfold oM at h
 cases h0:(f==0) with
 | true=>rw[h0,cond_true]at h;exact .inl (List.mem_filter.1 h).1
 | false =>
  rw[h0,cond_false]at h
  cases h2:(f==2) with
  | true =>
   rw[h2,cond_true]at h
   obtain⟨p,h3,rfl⟩:=List.mem_map.1 h
   exact .inr ⟨eq_of_beq h2,p,(List.mem_filter.1 h3).1,rfl⟩
  | false =>
   rw[h2,cond_false]at h
   cases h3:(f==3) with
   | true=>rw[h3,cond_true]at h;exact .inl (List.mem_filter.1 h).1
   | false =>
    rw[h3,cond_false]at h
    cases h4:(f==4) with
    | true =>
     rw[h4,cond_true]at h
     rcases ep _ _ _ h with h | h
     · cases h
     · exact .inl h
    | false=>rw[h4,cond_false]at h;exact .inl h
theorem Zh (f:Int)(g:zw)(hg:zO g=true)(p q:z1)(hp:p∈g.packs)(hq:q∈(xn f g).packs)(e:keyOf q=keyOf p):Part p q:=by
 obtain⟨x,hx,rfl⟩:=List.mem_map.1 hq
 rcases YT f g x hx with h | ⟨rfl,r,hr,rfl⟩
 · have := (yR hg).key x h p hp e
   subst this
   exact Part.zM f x
 · have := (yR hg).key r hr p hp e
   subst this
   exact⟨⟨xF 2,rfl⟩,fun k=>!rootKey k,rfl⟩
theorem dn (f:Int)(g:zw)(hg:zO g=true)(p:z1)(hp:p∈g.packs):yV yZ (xn f g) p=yV xb (xn f g) p:=by
 unfold yV
 cases h:yS (xn f g).packs (keyOf p) with
 | none=>rfl
 | some q =>
  obtain⟨h1,h2,_⟩:=wg h
  exact lX (Zh f g hg p q hp h1 h2)
theorem dk (g:zw)(hg:zO g=true)(p:z1)(hp:p∈g.packs):yV yZ g p=yV xb g p:=by
 unfold yV
 rw[w7 (yR hg) hp]
 exact lX (Part.refl p)
theorem V1 (f:Int)(g:zw)(hg:zO g=true):wY yZ (xn f g) g=wY xb (xn f g) g:=by
 unfold wY
 congr 1
 rw[List.flatMap_def,List.flatMap_def]
 congr 1
 refine List.map_congr_left fun p hp=>?_
 unfold vH
 rw[dn f g hg p hp]
theorem V0 (g:zw)(hg:zO g=true):wY yZ g g=wY xb g g:=by
 unfold wY
 congr 1
 rw[List.flatMap_def,List.flatMap_def]
 congr 1
 refine List.map_congr_left fun p hp=>?_
 unfold vH
 rw[dk g hg p hp]
theorem Z6 (l:z1→z1→Str)(hl:∀ p q,(l p q).length≤6)(h:zw)(p:z1):(yV l h p).length≤6:=by
 unfold yV
 cases yS h.packs (keyOf p) with
 | none=>exact (by decide:jo.length≤6)
 | some q=>exact hl p q
theorem Z9 (p q:z1):(yZ p q).length≤6:=by
 unfold yZ
 cases (p.source==q.source)<;>cases (xA p.sums==xA q.sums)<;>cases (p.dev==q.dev)<;>cases (p.zn==q.zn)<;>decide
theorem Z7 (p q:z1):(xb p q).length≤6:=by
 unfold xb
 cases (p.source==q.source)<;>cases ((p.sums.length:Int)==(q.sums.length:Int))<;>cases (p.dev==q.dev)<;>cases ((p.zn.length:Int)==(q.zn.length:Int))<;>decide
theorem iF (l:z1→z1→Str)(h:zw):∀ ps:List z1,(ps.flatMap (vH l h)).length≤ps.length
 | []=>Nat.le_refl _
 | p::r=>by
  have ih:=iF l h r
  rw[List.flatMap_cons,List.length_append,List.length_cons]
  unfold vH at ih ⊢
  cases (yV l h p==[])<;>simp only[cond_true,cond_false,List.length_cons,List.length_nil]<;>omega
theorem V3 (l:z1→z1→Str)(h g:zw):(wY l h g).length≤g.packs.length+1:=by
 have:=iF l h g.packs
 unfold wY
 rw[List.length_append]
 cases (g.top==h.top)<;>simp only[cond_true,cond_false,List.length_cons,List.length_nil]<;>omega
end Go.Proofs.YtefkoljdebekdaaGreatDoor

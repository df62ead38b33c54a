/- Joined: K28 K29 K34 V23 J18 K35 K51 S1 W16 W17. Conditions: those of each lemma. -/
import Derived.Test.YtefkoljdebekdaaGreatDoorsN
import Derived.Test.YtefkoljdebekdaaGreatDoorsL
import Derived.Test.YtefkoljdebekdaaGreatDoorsI
import Derived.Shelf.SlSortCmp.NoneTotal
import Derived.Lib.SortBridge
import Derived.Test.YtefkoljdebekdaaGreatDoorsK
import Derived.Test.YtefkoljdebekdaaGreatDoorsM
import Derived.Test.YtefkoljdebekdaaGreatDoorRows
import Derived.ProofKit
import Derived.ReadAgain
import Derived.Test.YtefkoljdebekdaaGreatDoorsJ
set_option linter.unusedVariables false
set_option linter.unusedSimpArgs false
set_option maxRecDepth 100000
set_option maxHeartbeats 40000000
namespace Go.Proofs.YtefkoljdebekdaaGreatDoor
open Go.Proofs.Tryz
open E
def vok (s:Str):Bool:=isV s&&decide (s.length≤1048700)
abbrev VT:={ s:Str // vok s=true }
instance:Inhabited VT:=⟨⟨[48,46,48,46,48],by decide +kernel⟩⟩
def nV (x:VT):Value:=encStr x.1
def cfT (x y:VT):Int:=xM x.1 y.1
theorem VT.v (x:VT):isV x.1=true:=by
 have:=x.2;unfold vok at this;simp only[Bool.and_eq_true]at this;exact this.1
theorem VT.l (x:VT):x.1.length≤1048700:=by
 have:=x.2;unfold vok at this;simp only[Bool.and_eq_true,decide_eq_true_eq]at this;exact this.2
theorem ltT (x y:VT):ltOf cfT x y=decide (xM x.1 y.1<0):=rfl
theorem R4:Go.Sort.SWO (ltOf cfT) where
 irrefl x:=by
  rw[ltT];have:=yN.refl x.v;apply decide_eq_false;omega
 trans x y z h1 h2:=by
  rw[ltT]at *;exact decide_eq_true (yN.trans _ _ _ x.v y.v z.v (of_decide_eq_true h1) (of_decide_eq_true h2))
 ntrans x y z h1 h2:=by
  rw[ltT]at *;have k1:=of_decide_eq_false h1;have k2:=of_decide_eq_false h2;apply decide_eq_false;intro h3
  by_cases e:xM x.1 y.1=0
  · have:=yN.sep _ _ x.v y.v e;rw[this]at h3;exact k2 h3
  · have h4:=yN.anti _ _ x.v y.v;exact k2 (yN.trans _ _ _ y.v x.v z.v (by omega) h3)
theorem totT (x y:VT)(h1:ltOf cfT x y=false)(h2:ltOf cfT y x=false):x=y:=by
 rw[ltT]at *;have k1:=of_decide_eq_false h1;have k2:=of_decide_eq_false h2;have h4:=yN.anti _ _ x.v y.v;exact Subtype.ext (yN.sep _ _ x.v y.v (by omega))
def vts (ks:List Str)(h:ks.all vok=true):List VT:=ks.attach.map fun x=>⟨x.1,List.all_eq_true.1 h x.1 x.2⟩
theorem fw (ks:List Str)(h:ks.all vok=true):(vts ks h).map (·.1)=ks:=by
 unfold vts;rw[List.map_map];exact List.attach_map_subtype_val ks
theorem la (ks:List Str)(h:ks.all vok=true):(vts ks h).length=ks.length:=by
 have:=congrArg List.length (fw ks h);simpa using this
def wP (ks:List Str)(h:ks.all vok=true):List Str:=((vts ks h).mergeSort fun x y=>!(ltOf cfT) y x).map (·.1)
theorem nh (ks:List Str)(h:ks.all vok=true):(wP ks h).length=ks.length:=by
 unfold wP;rw[List.length_map,List.length_mergeSort,la]
theorem aj (ks:List Str)(h:ks.all vok=true):(wP ks h).Perm ks:=by
 have h1:=(List.mergeSort_perm (vts ks h) fun x y=>!(ltOf cfT) y x).map (·.1);rw[fw]at h1;exact h1
theorem Xx (ks:List Str)(h:ks.all vok=true):(wP ks h).Pairwise fun x y=>xM x y≤0:=by
 unfold wP;rw[List.pairwise_map];have:=List.pairwise_mergeSort (le:=fun x y:VT=>!(ltOf cfT) y x) (fun a b c h1 h2=>by
  simp only[Bool.not_eq_true']at *;exact R4.ntrans _ _ _ h2 h1) (fun a b=>by
  cases h1:ltOf cfT b a with
  | false=>rfl
  | true =>
   have h2:ltOf cfT a b=false:=by
    cases h3:ltOf cfT a b with
    | false=>rfl
    | true=>have:=R4.trans _ _ _ h1 h3;rw[R4.irrefl]at this;cases this
   rw[h2];rfl) (vts ks h)
 refine this.imp fun {a b} hab=>?_
 simp only[Bool.not_eq_true',ltT]at hab;have k1:=of_decide_eq_false hab;have h4:=yN.anti _ _ b.v a.v;omega
def ef (args:List V)(h:Heap):Option (V×Heap) :=
 match args,h with
 | [.sl 0 0 n cap,.t (.fn g [])],[.ts 1 es]=>match strsOf es with
  | some ks=>if hk:ks.all vok=true then (if g=89∧n=ks.length∧ks.length≤1073741824 then some (.tup [],[.ts 1 (strs (wP ks hk))]) else none) else none
  | none=>none
 | _,_=>none
theorem Sd {W w':World}(h1:w'.os=W.os)(h2:w'.tape=W.tape)(h3:w'.output=W.output)(h4:W.heap.size≤w'.heap.size)(h5:∀ b,b<W.heap.size→w'.heap[b]? = W.heap[b]?)(h6:W.drawn≤w'.drawn) :
 w'=Go.Sort.grow (W.drewN (w'.drawn - W.drawn)) (w'.heap.extract W.heap.size w'.heap.size):=by
 have e:w'.heap=W.heap++w'.heap.extract W.heap.size w'.heap.size:=by
  apply Array.ext_getElem?;intro b
  by_cases hb:b<W.heap.size
  · rw[h5 b hb,Array.getElem?_append_left hb]
  · rw[Array.getElem?_append_right (by omega),Array.getElem?_extract]
    by_cases hb2:b<w'.heap.size
    · rw[if_pos (by omega),show W.heap.size+(b - W.heap.size)=b by omega]
    · rw[if_neg (by omega),Array.getElem?_eq_none (by omega)]
 obtain⟨hp,tp,dr,os,ou⟩:=w';obtain⟨hp0,tp0,dr0,os0,ou0⟩:=W;simp only at h1 h2 h3 h4 h6 e;subst h1;subst h2;subst h3;unfold Go.Sort.grow World.drewN;simp only;rw[← e,show dr0+(dr - dr0)=dr by omega]
theorem Vg {W0:World}(hL:pE W0){F:Nat→Prop}{w:World}(hB:vy W0 w F){blk:Nat}(hblk:W0.heap.size≤blk)(off size:Nat):CmpLays1 prog 89 #[] nV cfT blk off size w:=by
 intro m os dk hs x y;have hc:=RS x.1 y.1 x.l y.l;rw[YO (xf x.v).2.2.1 (xf y.v).2.2.1]at hc
 change zr (EV prog pol) 89 [.t (.str x.1),.t (.str y.1)]=some (.t (.int .i64 (cfT x y))) at hc
 have hv:EV prog pol (.call 89 [.t (.str x.1),.t (.str y.1)] [])=some (.call (.t (.int .i64 (cfT x y))) []):=by
  unfold zr at hc
  split at hc
  · rename_i v hv
    cases hc;exact hv
  · cases hc
 have hW:vy W0 (_root_.Go.Proofs.sortWorld nV w blk off m dk os) (fun b=>b<W0.heap.size):=by
  refine⟨?_,fun b hb=>hb,fun b hb=>?_⟩
  · have:=hB.size;unfold _root_.Go.Proofs.sortWorld Go.Sort.grow;simp only[Array.size_append];have:(Go.Sort.putRow nV (Go.Sort.ahead w m) blk off dk).heap.size=w.heap.size:=by simp[Go.Sort.putRow,Go.Sort.mapBlock,Go.Sort.ahead]
    omega
  · have hs:=hB.size;have h0:(Go.Sort.putRow nV (Go.Sort.ahead w m) blk off dk).heap.size=w.heap.size:=by simp[Go.Sort.putRow,Go.Sort.mapBlock,Go.Sort.ahead]
    unfold _root_.Go.Proofs.sortWorld Go.Sort.grow;simp only;rw[Array.getElem?_append_left (by omega),← hB.heap b hb];unfold Go.Sort.putRow Go.Sort.mapBlock;simp only;rw[Array.getElem?_modify,if_neg (by omega)];rfl
 have h:=X3 (UF W0 hL) jx hv (_root_.Go.Proofs.sortWorld nV w blk off m dk os) (fun b=>b<W0.heap.size) #[nV x,nV y] hW (fun b hb=>Nat.lt_of_lt_of_le hb hW.size) (.cons (.t _ _ (.str _ _ (by simp[nV]))) (.cons (.t _ _ (.str _ _ (by simp[nV]))) .nil));refine (Dr.dd h (by rintro e w' ⟨u,F',rfl,_⟩;exact⟨u,rfl⟩)).mono ?_
 rintro e w' ⟨⟨u,F',rfl,hu,_,hN⟩,hd⟩
 cases hu with
 | t _ _ ht =>
  cases ht;exact⟨rfl,_,_,Sd hN.os hN.tape hN.output hN.size (fun b hb=>hN.keep b hb (Nat.not_le.2 hb)) hd⟩
theorem UB {w:World}{b o:Nat}{ks:List Str}(h:ks.all vok=true)(hH:Go.Sort.Holds encStr w b o ks.toArray):Go.Sort.Holds nV w b o (vts ks h).toArray:=by
 intro j hj;have hj':j<ks.length:=by rw[← la ks h];simpa using hj
 have hx:=hH j (by simpa using hj');have hjv:j<(vts ks h).length:=by rw[la];exact hj'
 have e:(vts ks h)[j].1=ks[j]:=by
  have h1:=congrArg (·[j]?) (fw ks h);simp only[List.getElem?_map,List.getElem?_eq_getElem hjv,List.getElem?_eq_getElem hj',Option.map_some]at h1;exact Option.some.inj h1
 have e1:((vts ks h).toArray)[j]! = (vts ks h)[j]:=by simp[hjv]
 have e2:(ks.toArray)[j]! = ks[j]:=by simp[hj']
 rw[e2]at hx;rw[e1];unfold nV;rw[e];exact hx
theorem Ws (W0:World)(hL:pE W0):rJ prog W0 166 ef:=by
 intro args h v h' hv;unfold ef at hv
 split at hv
 · rename_i n cap g es
   split at hv
   · rename_i ks hks
     split at hv
     · rename_i hk
       split at hv
       · rename_i hn;obtain⟨rfl,hn,hlim⟩:=hn
         cases hv;obtain rfl:=tF hks;refine⟨⟨Tryz.f166,func166,by kernel_rfl,by kernel_rfl⟩,fun Ow w F ρ us hB hS hO hu=>?_⟩;obtain⟨us⟩:=us
         change RVs w F ρ us _ at hu
         cases hu with
         | cons h1 h2 =>
         cases h2 with
         | cons h3 h4 =>
         cases h4
         cases h3 with
         | t _ _ h3 =>
         cases h3 with
         | fn _ _ vs hvs gg hgg hrr =>
         obtain rfl:vs = #[]:=Array.eq_empty_of_size_eq_zero (by simpa using hvs);subst hn;have htup':∀ {w':World},RV w' F ρ (.tuple #[]) (.tup []):=.tup _ _ (fun _=>undef) rfl (fun j hj=>by simp at hj) fun j x hj=>by simp at hj
         have none_case:ks=[]→∀ (a:Option Addr) (c:Nat),Calls prog 166 #[.slice a 0 c,.func (.func 89) #[] #[]] w fun e w'=>∃ u F' ρ',e=.returned u∧RV w' F' ρ' u (.tup [])∧St w' F' ρ' Ow [.ts 1 (strs (wP ks hk))]∧Nxt Ow w F zO w' F' zO∧∀ r l,r<1→ρ r=some l→ρ' r=some l:=fun hk0 a c=>by
          subst hk0;refine (AnyF.slices_SortFunc_none (P:=prog) (ρ:=Tryz.uD) Tryz.lB a c (.func (.func 89) #[] #[]) w).mono fun e w' hp=>?_
          obtain⟨rfl,rfl⟩:=hp;have e0:wP [] hk=[]:=List.eq_nil_of_length_eq_zero (nh [] hk);exact⟨_,F,ρ,rfl,htup',by rw[e0];exact hS,Nxt.refl _ _ _ _,fun _ _ _ hl=>hl⟩
         generalize hkl:ks.length=kl at h1
         cases h1 with
         | slP r cap a hρ hc=>exact none_case (List.eq_nil_of_length_eq_zero hkl) a 0
         | sl r off len cap L a c hρ ha hl hnn hc0 hc1 hz =>
          by_cases hk0:ks=[]
          · subst hk0;simp at hkl;subst hkl;exact none_case rfl a c
          · have hpos:0<ks.length:=by cases ks with|nil=>exact absurd rfl hk0|cons x r=>simp
            have hcne:c≠0:=by omega
            obtain rfl:=ha.resolve_right hcne;obtain⟨hH,hlt,q2,q3,hnF,hput⟩:=Zz hS hk0 hρ;have hge:W0.heap.size≤L.b:=Nat.le_of_not_lt fun x=>hnF (hB.F _ x)
            have hsz:(vts ks hk).toArray.size=ks.length:=by simp[la]
            have eg:∀ args w,(callFunc 89 args).run prog w=.ok (.enter 89 args) w:=enters_of func89 (by kernel_rfl) rfl;refine Calls.mono (by
             have:=Any.slices_SortFunc_total Tryz.jM nV (fun _=>rfl) cfT R4 89 #[] L.b L.o c (vts ks hk).toArray w eg (Vg hL hB hge L.o _) (UB hk hH) hlt (by omega) totT;rw[hsz,hkl]at this;rw[show L.o+0*L.sz=L.o by omega];exact this) fun e w' hp=>?_
            obtain⟨rfl,q,os,hw'⟩:=hp;unfold _root_.Go.Proofs.sortWorld at hw';rw[Lib.putRow_eq_setCells nV w L.b L.o (vts ks hk).toArray _ q (UB hk hH) (by simp)]at hw';have em:((vts ks hk).toArray.toList.mergeSort fun x y=>!(ltOf cfT) y x).map nV=(wP ks hk).map encStr:=by
             unfold wP;rw[List.map_map];rfl
            rw[em]at hw';obtain⟨hS3,hN3⟩:=hput (wP ks hk) q os w' (nh ks hk) hw';exact⟨_,F,ρ,rfl,htup',hS3,hN3,fun _ _ _ hl=>hl⟩
       · cases hv
     · cases hv
   · cases hv
 · cases hv
def sH (f:Nat)(args:List V)(h:Heap):Option (V×Heap):=if f=166 then ef args h else tm f args h
noncomputable def xK:Pol:={ pol with no:=bY.no,extO:=sH }
theorem TI:∀ f fn c,xK.no f=false→prog.funcs[f]? = some fn→fn.body=some c→xn (oQ prog xK f) fn.ntmps c=true:=ZG
theorem Sk (W0:World)(hL:pE W0):l0 prog W0 xK:=by
 refine⟨(UF W0 hL).p,fun g=>?_⟩;intro args h v h' hv;have hv':sH g args h=some (v,h'):=hv;clear hv;unfold sH at hv'
 by_cases hg:g=166
 · subst hg;rw[if_pos rfl]at hv';exact Ws W0 hL args h v h' hv'
 · rw[if_neg hg]at hv';exact YD W0 hL g args h v h' hv'
theorem noS:tm 166=fun _ _=>none:=by
 funext args h
 unfold tm;simp (config:={ decide:=true }) only[if_true,if_false,reduceIte]
theorem mO {req:Req}{r:w7}(h:EV prog pol req=some r):EV prog xK req=some r:=by
 refine R2 (pol:=pol) (fun f hf=>?_) (fun f=>?_) (fun f hf=>?_) h
 · show (bY.no f||_)=true
   rw[hf];rfl
 · by_cases hf:f=166
   · left
     show (bY.no f||f==166)=true
     rw[hf];simp
   · right;intro args hp
     show sH f args hp=tm f args hp
     unfold sH;rw[if_neg hf]
 · by_cases hf':f=166
   · right;intro args hp;subst hf'
     show tm 166 args hp=none
     rw[noS]
   · left;intro args hp
     show sH f args hp=tm f args hp
     unfold sH;rw[if_neg hf']
theorem mP {g:Nat}{args:List V}{v:V}(h:zr (EV prog pol) g args=some v):zr (EV prog xK) g args=some v:=by
 unfold zr at h ⊢
 split at h
 · rename_i v' hv
   cases h;rw[mO hv]
 · cases h
theorem yQ:∀ (rc:Rec) (f m p n:Nat) (fs:List Fr) (k:rI) (e:Env) (h:Heap) (l:List Oper),goC ⟨prog,xK,rc,f,m⟩ (.region n l.toArray true) p fs k e h=goD ⟨prog,xK,rc,f,m⟩ (l.all (ym xK f)) (nU f&&dmT f n) (dmT f (n+1000)) l fs k e (ghH (ghT f n) e h):=fun _ _ _ _ _ _ _ _ _ _=>jf _ _ _ _ _ _ _ _ rfl
theorem LVS2:∀ f p,xK.live f p=zL f p:=fun _ _=>rfl
theorem OVS2:∀ f p,xK.outs f p=zK f p:=fun _ _=>rfl
theorem PMS2:∀ f d,xK.pm f d=pmT f d:=fun _ _=>rfl
theorem OWS2:∀ f,xK.own f=nU f:=fun _=>rfl
theorem DMS2:∀ f n,xK.dm f n=dmT f n:=fun _ _=>rfl
theorem GHS2:∀ f n,xK.gh f n=ghT f n:=fun _ _=>rfl
theorem GS2:type_of% @LVS2∧type_of% @OVS2∧type_of% @LTS∧type_of% @TYS∧type_of% @PMS2∧type_of% @OWS2∧type_of% @GHS2∧type_of% @DMS2∧type_of% @pmT.eq_1∧type_of% @nU.eq_1∧type_of% @ghT.eq_1∧type_of% @dmT.eq_1:=⟨@LVS2,@OVS2,@LTS,@TYS,@PMS2,@OWS2,@GHS2,@DMS2,@pmT.eq_1,@nU.eq_1,@ghT.eq_1,@dmT.eq_1⟩
theorem SC (ks:List Str)(hk:ks.all vok=true)(h:ks.length≤1073741824)(n:Nat)(hn:n=ks.length)(cap:Option Nat):EV prog xK (.callO false 166 [.sl 0 0 n cap,.t (.fn 89 [])] [.ts 1 (strs ks)])=some (.call (.tup []) [.ts 1 (strs (wP ks hk))]) :=
 oV (x:=(.tup [],[.ts 1 (strs (wP ks hk))])) (by
  show sH 166 [.sl 0 0 n cap,.t (.fn 89 [])] [.ts 1 (strs ks)]=_
  unfold sH;rw[if_pos rfl];simp only[ef,vS];rw[dif_pos hk,if_pos ⟨trivial,hn,h⟩])
theorem R1 {l:List Str}(hl:∀ s∈l,s.length≤1048700):(l.filter isV).all vok=true:=by
 rw[List.all_eq_true];intro s hs;obtain⟨h1,h2⟩:=List.mem_filter.1 hs;unfold vok;rw[h2];simpa using hl s h1
theorem ni:∀ (l out:List Str),(xL out l).length≤out.length+l.length
 | [],out=>by simp[xL]
 | s :: r, out => by
  rw[xL];have h:=ni r (cond (isV s) (sK out s) out);have h2:(cond (isV s) (sK out s) out).length≤out.length+1:=by
   cases isV s with
   | false=>simp
   | true =>
    rw[cond_true];unfold sK
    cases YV out s with
    | true=>simp
    | false =>
     have:=fF out s;simp only[cond_false,List.length_append,List.length_take,List.length_cons,List.length_drop];omega
  simp only[List.length_cons];omega
theorem T7 (l:List Str)(hl:l.length≤1048576)(hs:∀ s∈l,s.length≤1048700):∀ (rest pre:List Str) (acc:List Str) (m:Nat) (cap:Option Nat),l=pre++rest→m=acc.length→m+rest.length≤1073741824→∃ cap',
 EV prog xK (.loop 109 58 0 [.sl 0 0 m cap,.t (.list 1 (strs l)),.t (.int .i64 (l.length:Int)),.t (.int .i64 (pre.length:Int))] [.ts 1 (strs acc)])
  = some (.loop (.exit 0) [.sl 0 0 (m+(rest.filter isV).length) cap'] [.ts 1 (strs (acc++rest.filter isV))])
 | [],pre,acc,m,cap,h,hm,hmM=>by
  have c:decide ((pre.length:Int)<(l.length:Int))=false:=by simp[h]
  refine⟨cap,?_⟩;simp only[List.filter_nil,List.append_nil,List.length_nil,Nat.add_zero];refine zh func109 rfl rfl ?_;simp (disch:=(try simp only[LL]);omega) only[↓GO,↓yQ,GA,GX,ren,zj,za,refs,z7,cst,zm,isC,bin,una,z6,zd,blt,asArg,zg,zc,zf,z1,zn,unN,ze,zk,zb,GS2,simprocAttr,GZ,c,zA]
 | s :: rest, pre, acc, m, cap, h, hm, hmM => by
  have c:decide ((pre.length:Int)<(l.length:Int))=true:=by simp[h];omega
  have hget:(strs l)[pre.length]? = some [.str s]:=x9 (by rw[h];simp);have hlen:pre.length+rest.length+1≤l.length:=by rw[h];simp;omega
  have d1:=mP (SK s (hs s (by rw[h];simp)));have hsl:(strs acc).length=m:=by rw[zo,hm]
  simp only[List.length_cons]at hmM;rw[List.filter_cons]
  cases q:isV s with
  | true =>
   rw[q]at d1;obtain⟨cap',IH⟩:=T7 l hl hs rest (pre++[s]) (acc++[s]) (m+1) none (by rw[h];simp) (by simp[hm]) (by omega);rw[show ((pre++[s]).length:Int)=(pre.length:Int)+1 by simp]at IH;rw[show strs (acc++[s])=strs acc++[[.str s]] by simp[strs]]at IH;refine⟨cap',?_⟩;simp only[if_true,List.length_cons];rw[show m+((rest.filter isV).length+1)=m+1+(rest.filter isV).length by omega,show acc++s::rest.filter isV=(acc++[s])++rest.filter isV by simp];clear h hs;generalize (acc++[s])++rest.filter isV=Z at *;refine zh func109 rfl rfl ?_;simp (disch:=(try simp only[LL]);omega) only[↓GO,↓yQ,GA,GX,ren,zj,za,refs,z7,cst,zm,isC,bin,una,z6,zd,blt,asArg,zg,zc,zf,z1,zn,unN,ze,zk,zb,GS2,simprocAttr,GZ,c,hget,d1,zi,hsl,zA,IH,y6]
  | false =>
   rw[q]at d1;obtain⟨cap',IH⟩:=T7 l hl hs rest (pre++[s]) acc m cap (by rw[h];simp) hm (by omega);rw[show ((pre++[s]).length:Int)=(pre.length:Int)+1 by simp]at IH;refine⟨cap',?_⟩;simp only[Bool.false_eq_true,if_false];clear h hs;generalize acc++rest.filter isV=Z at *;refine zh func109 rfl rfl ?_;simp (disch:=(try simp only[LL]);omega) only[↓GO,↓yQ,GA,GX,ren,zj,za,refs,z7,cst,zm,isC,bin,una,z6,zd,blt,asArg,zg,zc,zf,z1,zn,unN,ze,zk,zb,GS2,simprocAttr,GZ,c,hget,d1,zi,zA,IH]
theorem c_svI (l:List Str)(hl:l.length≤1048576)(hs:∀ s∈l,s.length≤1048700):zr (EV prog xK) 109 [.t (.list 1 (strs l))]=some (.t (.list 1 (strs (xL [] l)))):=by
 obtain⟨cap,L⟩:=T7 l hl hs l [] [] 0 (some 0) rfl rfl (by omega);have hk:=R1 hs;have hfl:(l.filter isV).length≤1048576:=Nat.le_trans (List.length_filter_le _ _) hl;have d1:=SC (l.filter isV) hk (by omega) (l.filter isV).length rfl cap;have hsl:=nh (l.filter isV) hk;have d2:=mO (UL (wP (l.filter isV) hk) (by omega) (l.filter isV).length hsl.symm cap);have hcl:=pq (wP (l.filter isV) hk);have hrl:=nO (wP (l.filter isV) hk);have ht:(strs (uV (wP (l.filter isV) hk))).take (Lib.compact (wP (l.filter isV) hk)).length=strs (Lib.compact (wP (l.filter isV) hk)):=by
  unfold uV strs;rw[← List.map_take,List.take_left]
 have e:Lib.compact (wP (l.filter isV) hk)=xL [] l:=by
  rw[gy];exact Xw l _ (aj _ hk) (Xx _ hk)
 rw[e]at d2 ht hcl;simp only[List.length_nil,Int.natCast_zero,Nat.zero_add,List.nil_append,show strs []=[] from rfl]at L;rw[hsl]at hcl hrl;generalize uV (wP (l.filter isV) hk)=C at *;generalize wP (l.filter isV) hk=B at *;generalize xL [] l=R at *;generalize l.filter isV=A at *;have hCl:(strs C).length=A.length:=by rw[zo,hrl]
 apply zu;refine zx rfl func109 rfl (by kernel_rfl) ?_;unfold Tryz.f109;simp (disch:=(try simp only[LL]);omega) only[↓GO,↓yQ,GA,GX,ren,zj,za,refs,z7,cst,zm,isC,bin,una,z6,zd,blt,asArg,zg,zc,zf,z1,zn,unN,ze,zk,zb,GS2,simprocAttr,GZ,L,d1,d2,ht,hCl,zo,List.drop_zero,zA]
theorem Un (out:List Str)(hol:out.length≤1048576)(ho:∀ s∈out,s.length≤1048700)(s:Str)(hsl:s.length≤1048700)(t0 t4:T)(m:Nat)(hm:m=out.length)(cap:Option Nat):∀ (rest pre:List Str),out=pre++rest →
 EV prog xK (.loop 123 29852 0 [.t t0,.sl 0 0 m cap,.t t4,.ptr 1 0 0,.t (.int .i64 (pre.length:Int))] [.ts 1 (strs out),.vs 4 [(zJ s).1.enc.map .t]])
  = some (.loop (.exit 2) [.t t0,.sl 0 0 m cap,.t t4,.t (.int .i64 ((pre.length+xP rest s:Nat):Int))] [.ts 1 (strs out)])
 | [],pre,h=>by
  have c:decide ((pre.length:Int)<(m:Int))=false:=by simp[hm,h]
  rw[show xP [] s=0 from rfl,Nat.add_zero];generalize (zJ s).1=v;simp only[Ver.enc,List.map_cons,List.map_nil];refine zh func123 rfl rfl ?_;simp (disch:=(try simp only[LL]);omega) only[↓GO,↓yQ,GA,GX,ren,zj,za,refs,z7,cst,zm,isC,bin,una,z6,zd,blt,asArg,zg,zc,zf,z1,zn,unN,ze,zk,zb,GS2,simprocAttr,GZ,c,zA]
 | x :: rest, pre, h => by
  have c:decide ((pre.length:Int)<(m:Int))=true:=by simp[hm,h];omega
  have c0:decide ((0:Int)≤(pre.length:Int))=true:=by simp
  have hget:(strs out)[pre.length]? = some [.str x]:=x9 (by rw[h];simp);have hlen:pre.length+rest.length+1≤out.length:=by rw[h];simp;omega
  have hx:=ho x (by rw[h];simp);have d1:=mP (fk x hx);have d2:=mP (Zh (zJ x).1 (zJ s).1 (wu x hx).1 (wu s hsl).1);have IH:=Un out hol ho s hsl t0 t4 m hm cap rest (pre++[x]) (by rw[h];simp);rw[show ((pre++[x]).length:Int)=(pre.length:Int)+1 by simp,show (pre++[x]).length+xP rest s=pre.length+(xP rest s+1) by simp;omega]at IH;rw[xP,show xM x s=kG (zJ x).1 (zJ s).1 from rfl];unfold rvT at d1;generalize kG (zJ x).1 (zJ s).1=n at *;generalize (zJ x).2=okx at *;generalize (zJ x).1=vx at *;generalize (zJ s).1=v at *;clear h ho;simp only[Ver.enc,List.map_cons,List.map_nil]at d1 d2 IH ⊢
  cases q:decide (n≥0) with
  | true =>
   simp only[cond_true,Nat.add_zero];refine zh func123 rfl rfl ?_;simp (disch:=(try simp only[LL]);omega) only[↓GO,↓yQ,GA,GX,ren,zj,za,refs,z7,cst,zm,isC,bin,una,z6,zd,blt,asArg,zg,zc,zf,z1,zn,unN,ze,zk,zb,GS2,simprocAttr,GZ,c,c0,hget,d1,d2,q,zA]
  | false =>
   simp only[cond_false];refine zh func123 rfl rfl ?_;simp (disch:=(try simp only[LL]);omega) only[↓GO,↓yQ,GA,GX,ren,zj,za,refs,z7,cst,zm,isC,bin,una,z6,zd,blt,asArg,zg,zc,zf,z1,zn,unN,ze,zk,zb,GS2,simprocAttr,GZ,c,c0,hget,d1,d2,q,zi,zA,IH]
theorem V0 {out:List Str}{s:Str}(h:out[xP out s]? = some s):sK out s=out:=by
 unfold sK YV;rw[h];simp
theorem Yn {out:List Str}{s:Str}(h:out[xP out s]? ≠ some s):sK out s=out.take (xP out s)++s::out.drop (xP out s):=by
 unfold sK YV;have:(out[xP out s]? == some s)=false:=by simpa using h
 rw[this];rfl
theorem Xc (l:List Str)(hl:l.length≤1048576)(hs:∀ s∈l,s.length≤1048700):∀ (rest pre:List Str) (out:List Str) (m:Nat) (cap:Option Nat),l=pre++rest→m=out.length→m+rest.length≤1048576→(∀ s∈out,s.length≤1048700)→∃ cap',
 EV prog xK (.loop 123 58 0 [.t (.list 1 (strs l)),.sl 0 0 m cap,.t (.int .i64 (pre.length:Int))] [.ts 1 (strs out)])
  = some (.loop (.exit 0) [.sl 0 0 (xL out rest).length cap'] [.ts 1 (strs (xL out rest))])
 | [],pre,out,m,cap,h,hm,hmM,ho=>by
  have c:decide ((pre.length:Int)<(l.length:Int))=false:=by simp[h]
  refine⟨cap,?_⟩;rw[xL,← hm];refine zh func123 rfl rfl ?_;simp (disch:=(try simp only[LL]);omega) only[↓GO,↓yQ,GA,GX,ren,zj,za,refs,z7,cst,zm,isC,bin,una,z6,zd,blt,asArg,zg,zc,zf,z1,zn,unN,ze,zk,zb,GS2,simprocAttr,GZ,c,zo,zA]
 | s :: rest, pre, out, m, cap, h, hm, hmM, ho => by
  have c:decide ((pre.length:Int)<(l.length:Int))=true:=by simp[h];omega
  have hget:(strs l)[pre.length]? = some [.str s]:=x9 (by rw[h];simp);have hlen:pre.length+rest.length+1≤l.length:=by rw[h];simp;omega
  have hsb:=hs s (by rw[h];simp);have d1:=mP (fk s hsb);unfold rvT at d1;simp only[List.length_cons]at hmM;rw[xL]
  cases q:isV s with
  | false =>
   have q':(zJ s).2=false:=q;rw[q']at d1;obtain⟨cap',IH⟩:=Xc l hl hs rest (pre++[s]) out m cap (by rw[h];simp) hm (by omega) ho;rw[show ((pre++[s]).length:Int)=(pre.length:Int)+1 by simp]at IH;refine⟨cap',?_⟩;rw[cond_false];clear h hs;generalize xL out rest=Z at *;generalize (zJ s).1=v at *;simp only[Ver.enc,List.map_cons,List.map_nil]at d1;refine zh func123 rfl rfl ?_;simp (disch:=(try simp only[LL]);omega) only[↓GO,↓yQ,GA,GX,ren,zj,za,refs,z7,cst,zm,isC,bin,una,z6,zd,blt,asArg,zg,zc,zf,z1,zn,unN,ze,zk,zb,GS2,simprocAttr,GZ,c,hget,d1,zo,zi,zA,IH]
  | true =>
   have q':(zJ s).2=true:=q;rw[q']at d1;have L:=Un out (by omega) ho s hsb (.list 1 (strs l)) (.int .i64 (pre.length:Int)) m hm cap out [] rfl;simp only[List.length_nil,Int.natCast_zero,Nat.zero_add]at L;have hp:=fF out s;rw[← hm]at hp;have c0:decide ((0:Int)≤((xP out s:Nat):Int))=true:=by simp
   have hsl:(strs out).length=m:=by rw[zo,hm]
   rw[cond_true]
   by_cases hx:out[xP out s]? = some s
   · have hgx:=x9 hx;have hlt:xP out s<m:=by rw[hm];exact (List.getElem?_eq_some_iff.1 hx).1
     have c1:decide (((xP out s:Nat):Int)<(m:Int))=true:=by simpa using hlt
     rw[V0 hx];obtain⟨cap',IH⟩:=Xc l hl hs rest (pre++[s]) out m cap (by rw[h];simp) hm (by omega) ho;rw[show ((pre++[s]).length:Int)=(pre.length:Int)+1 by simp]at IH;refine⟨cap',?_⟩;clear h hs ho hx;generalize xL out rest=Z at *;generalize (zJ s).1=v at *;generalize xP out s=p at *;simp only[Ver.enc,List.map_cons,List.map_nil]at d1 L;refine zh func123 rfl rfl ?_;simp (disch:=(try simp only[LL]);omega) only[↓GO,↓yQ,GA,GX,ren,zj,za,refs,z7,cst,zm,isC,bin,una,z6,zd,blt,asArg,zg,zc,zf,z1,zn,unN,ze,zk,zb,GS2,simprocAttr,GZ,c,c0,c1,hget,hgx,d1,L,zo,zi,beq_self_eq_true,zA,IH]
   · have e:strs (sK out s)=((strs out).take (xP out s)++[[.str s]])++(strs out).drop (xP out s):=by rw[Yn hx];simp[strs]
     have hil:(sK out s).length=m+1:=by
      rw[Yn hx];simp only[List.length_append,List.length_take,List.length_cons,List.length_drop];omega
     have hA1:((strs out).take (xP out s)).length=xP out s:=by rw[List.length_take,hsl];omega
     have hB0:((strs out).drop (xP out s)).take (m - xP out s)=(strs out).drop (xP out s):=List.take_of_length_le (by rw[List.length_drop,hsl];omega);have hB1:((strs out).drop (xP out s)).length=m - xP out s:=by rw[List.length_drop,hsl]
     have hE:xP out s+1+(m - xP out s)=m+1:=by omega
     obtain⟨cap',IH⟩:=Xc l hl hs rest (pre++[s]) (sK out s) (m+1) none (by rw[h];simp) hil.symm (by omega) (fun y hy=>by
      rcases (rz out s y).1 hy with hy|rfl
      · exact ho y hy
      · exact hsb)
     rw[show ((pre++[s]).length:Int)=(pre.length:Int)+1 by simp,e]at IH;refine⟨cap',?_⟩;generalize xL (sK out s) rest=Z at *;generalize (zJ s).1=v at *
     cases hy:out[xP out s]? with
     | none =>
      have hge:m≤xP out s:=by rw[hm];exact List.getElem?_eq_none_iff.1 hy
      have c1:decide (((xP out s:Nat):Int)<(m:Int))=false:=by simpa using hge
      clear h hs ho hx hy e hil;generalize xP out s=p at *;generalize hA:(strs out).take p=A at *;generalize hB:(strs out).drop p=B at *;have hC:(A++[[T.str s]]).length=p+1:=by simp[hA1]
      simp only[Ver.enc,List.map_cons,List.map_nil]at d1 L;refine zh func123 rfl rfl ?_;simp (disch:=(try simp only[LL]);omega) only[↓GO,↓yQ,GA,GX,ren,zj,za,refs,z7,cst,zm,isC,bin,una,z6,zd,blt,asArg,zg,zc,zf,z1,zn,unN,ze,zk,zb,GS2,simprocAttr,GZ,c,c0,c1,hget,d1,L,zo,hsl,Nat.sub_zero,hA,hA1,hC,hB,hB0,hB1,hE,List.nil_append,Nat.zero_add,zi,zA,IH,y6];refine zT (by kernel_rfl) ?_
      first|exact IH|simp (disch:=(try simp only[LL]);omega) only[↓GO,↓yQ,GA,GX,ren,zj,za,refs,z7,cst,zm,isC,bin,una,z6,zd,blt,asArg,zg,zc,zf,z1,zn,unN,ze,zk,zb,GS2,simprocAttr,GZ,IH,zi]
     | some x =>
      have hgx:=x9 hy;have hlt:xP out s<m:=by rw[hm];exact (List.getElem?_eq_some_iff.1 hy).1
      have c1:decide (((xP out s:Nat):Int)<(m:Int))=true:=by simpa using hlt
      have qx:(x==s)=false:=by rw[beq_eq_false_iff_ne];intro e';rw[hy,e']at hx;exact hx rfl
      clear h hs ho hx hy e hil;generalize xP out s=p at *;generalize hA:(strs out).take p=A at *;generalize hB:(strs out).drop p=B at *;have hC:(A++[[T.str s]]).length=p+1:=by simp[hA1]
      simp only[Ver.enc,List.map_cons,List.map_nil]at d1 L;refine zh func123 rfl rfl ?_;simp (disch:=(try simp only[LL]);omega) only[↓GO,↓yQ,GA,GX,ren,zj,za,refs,z7,cst,zm,isC,bin,una,z6,zd,blt,asArg,zg,zc,zf,z1,zn,unN,ze,zk,zb,GS2,simprocAttr,GZ,c,c0,c1,hget,hgx,qx,d1,L,zo,hsl,Nat.sub_zero,hA,hA1,hC,hB,hB0,hB1,hE,List.nil_append,Nat.zero_add,zi,zA,IH,y6];refine zT (by kernel_rfl) ?_
      first|exact IH|simp (disch:=(try simp only[LL]);omega) only[↓GO,↓yQ,GA,GX,ren,zj,za,refs,z7,cst,zm,isC,bin,una,z6,zd,blt,asArg,zg,zc,zf,z1,zn,unN,ze,zk,zb,GS2,simprocAttr,GZ,IH,zi]
theorem c_svR (l:List Str)(hl:l.length≤1048576)(hs:∀ s∈l,s.length≤1048700):zr (EV prog xK) 123 [.t (.list 1 (strs l))]=some (.t (.list 1 (strs (xL [] l)))):=by
 obtain⟨cap,L⟩:=Xc l hl hs l [] [] 0 (some 0) rfl rfl (by omega) (fun s hs=>by simp at hs);have ht:(strs (xL [] l)).take (xL [] l).length=strs (xL [] l):=by rw[← zo (xL [] l)];simp
 simp only[List.length_nil,Int.natCast_zero,show strs []=[] from rfl]at L;generalize xL [] l=Z at *;apply zu;refine zx rfl func123 rfl (by kernel_rfl) ?_;unfold Tryz.f123;simp (disch:=(try simp only[LL]);omega) only[↓GO,↓yQ,GA,GX,ren,zj,za,refs,z7,cst,zm,isC,bin,una,z6,zd,blt,asArg,zg,zc,zf,z1,zn,unN,ze,zk,zb,GS2,simprocAttr,GZ,L,ht,zA]
def ye (ps:List z8)(name:Str):List Str:=(ps.filter fun p=>p.name==name).map (·.version)
def zS (g:zy)(name:Str):List Str:=xL [] (ye g.packs name)
theorem kc (ps:List z8)(name:Str):(ye ps name).length≤ps.length:=by
 unfold ye;rw[List.length_map];exact List.length_filter_le _ _
theorem mw (p:z8)(ps:List z8)(name:Str):ye (p::ps) name=cond (p.name==name) (p.version::ye ps name) (ye ps name):=by
 unfold ye;rw[List.filter_cons]
 cases (p.name==name)<;>rfl
theorem j5 {g:zy}(hB:GB g)(name:Str):(ye g.packs name).length≤1048576∧∀ s∈ye g.packs name,s.length≤1048700:=by
 obtain⟨h1,_,h3⟩:=hB.len;refine⟨Nat.le_trans (kc _ _) h1,fun s hs=>?_⟩;obtain⟨p,hp,rfl⟩:=List.mem_map.1 hs;have:=h3 p (List.mem_filter.1 hp).1;simp only[z8.y0]at this;omega
theorem T6 (name:Str)(ps:List z8)(hl:ps.length≤1048576):∀ (rest pre:List z8) (acc:List Str) (m:Nat) (cap:Option Nat),ps=pre++rest→m=acc.length→m+rest.length≤1073741824→∃ cap',
 EV prog xK (.loop 44 58 0 [.t (.str name),.sl 0 0 m cap,.t (.list 6 (z8.zq ps)),.t (.int .i64 (ps.length:Int)),.t (.int .i64 (pre.length:Int))] [.ts 1 (strs acc)])
  = some (.loop (.exit 0) [.sl 0 0 (m+(ye rest name).length) cap'] [.ts 1 (strs (acc++ye rest name))])
 | [],pre,acc,m,cap,h,hm,hmM=>by
  have c:decide ((pre.length:Int)<(ps.length:Int))=false:=by simp[h]
  refine⟨cap,?_⟩;rw[show ye [] name=[] from rfl];simp only[List.append_nil,List.length_nil,Nat.add_zero];refine zh func44 rfl rfl ?_;simp (disch:=(try simp only[LL]);omega) only[↓GO,↓yQ,GA,GX,ren,zj,za,refs,z7,cst,zm,isC,bin,una,z6,zd,blt,asArg,zg,zc,zf,z1,zn,unN,ze,zk,zb,GS2,simprocAttr,GZ,c,zA]
 | p :: rest, pre, acc, m, cap, h, hm, hmM => by
  have c:decide ((pre.length:Int)<(ps.length:Int))=true:=by simp[h];omega
  have hget:(z8.zq ps)[pre.length]? = some p.enc:=by rw[h];simp[z8.zq]
  have hlen:pre.length+rest.length+1≤ps.length:=by rw[h];simp;omega
  have hsl:(strs acc).length=m:=by rw[zo,hm]
  simp only[List.length_cons]at hmM;rw[mw];obtain⟨pn,version,source,sums,dev,zB⟩:=p;simp only[z8.enc]at hget;simp only
  cases q:(pn==name) with
  | true =>
   obtain⟨cap',IH⟩:=T6 name ps hl rest (pre++[⟨pn,version,source,sums,dev,zB⟩]) (acc++[version]) (m+1) none (by rw[h];simp) (by simp[hm]) (by omega);rw[show ((pre++[⟨pn,version,source,sums,dev,zB⟩]:List z8).length:Int)=(pre.length:Int)+1 by simp]at IH;rw[show strs (acc++[version])=strs acc++[[.str version]] by simp[strs]]at IH;refine⟨cap',?_⟩;simp only[cond_true,List.length_cons];rw[show m+((ye rest name).length+1)=m+1+(ye rest name).length by omega,show acc++version::ye rest name=(acc++[version])++ye rest name by simp];clear h;generalize (acc++[version])++ye rest name=Z at *;refine zh func44 rfl rfl ?_;simp (disch:=(try simp only[LL]);omega) only[↓GO,↓yQ,GA,GX,ren,zj,za,refs,z7,cst,zm,isC,bin,una,z6,zd,blt,asArg,zg,zc,zf,z1,zn,unN,ze,zk,zb,GS2,simprocAttr,GZ,c,hget,q,zi,hsl,zA,IH,y6]
  | false =>
   obtain⟨cap',IH⟩:=T6 name ps hl rest (pre++[⟨pn,version,source,sums,dev,zB⟩]) acc m cap (by rw[h];simp) hm (by omega);rw[show ((pre++[⟨pn,version,source,sums,dev,zB⟩]:List z8).length:Int)=(pre.length:Int)+1 by simp]at IH;refine⟨cap',?_⟩;simp only[cond_false];clear h;generalize acc++ye rest name=Z at *;refine zh func44 rfl rfl ?_;simp (disch:=(try simp only[LL]);omega) only[↓GO,↓yQ,GA,GX,ren,zj,za,refs,z7,cst,zm,isC,bin,una,z6,zd,blt,asArg,zg,zc,zf,z1,zn,unN,ze,zk,zb,GS2,simprocAttr,GZ,c,hget,q,zi,zA,IH]
theorem RN (g:zy)(hB:GB g)(name:Str):zr (EV prog xK) 44 [.agg (g.enc.map .t),.t (.str name)]=some (.t (.list 1 (strs (zS g name)))):=by
 obtain⟨h1,h2⟩:=j5 hB name;have h3:=hB.len;obtain⟨cap,L⟩:=T6 name g.packs h3.1 g.packs [] [] 0 (some 0) rfl rfl (by omega);have d1:=c_svI (ye g.packs name) h1 h2;unfold zS;have hnl:=zo (ye g.packs name);have ht:(strs (ye g.packs name)).take (ye g.packs name).length=strs (ye g.packs name):=by rw[← hnl];simp
 clear hB h2 h3;obtain⟨top,packs⟩:=g;simp only[List.length_nil,Int.natCast_zero,Nat.zero_add,List.nil_append,show strs []=[] from rfl,zy.enc,List.map_cons,List.map_nil]at L d1 ht ⊢;generalize xL [] (ye packs name)=Z at *;generalize ye packs name=N at *;apply zu;refine zx rfl func44 rfl (by kernel_rfl) ?_;unfold Tryz.f44;simp (disch:=(try simp only[LL]);omega) only[↓GO,↓yQ,GA,GX,ren,zj,za,refs,z7,cst,zm,isC,bin,una,z6,zd,blt,asArg,zg,zc,zf,z1,zn,unN,ze,zk,zb,GS2,simprocAttr,GZ,L,d1,ht,z8.zz,zA]
theorem T5 (name:Str)(g:zy)(hB:GB g):∀ (rest pre:List z8) (acc:List Str) (m:Nat) (cap:Option Nat),g.packs=pre++rest→m=acc.length→m+rest.length≤1073741824→∃ cap',
 EV prog xK (.loop 121 58 0 [.t (.str name),.ptr 0 0 0,.sl 1 0 m cap,.t (.int .i64 (pre.length:Int))] [.vs 2 [g.enc.map .t],.ts 1 (strs acc)])
  = some (.loop (.exit 0) [.sl 0 0 (m+(ye rest name).length) cap'] [.ts 1 (strs (acc++ye rest name))])
 | [],pre,acc,m,cap,h,hm,hmM=>by
  have c:decide ((pre.length:Int)<(g.packs.length:Int))=false:=by simp[h]
  refine⟨cap,?_⟩;rw[show ye [] name=[] from rfl];clear hB;obtain⟨top,packs⟩:=g;simp only[List.append_nil,List.length_nil,Nat.add_zero,zy.enc,List.map_cons,List.map_nil]at c ⊢;refine zh func121 rfl rfl ?_;simp (disch:=(try simp only[LL]);omega) only[↓GO,↓yQ,GA,GX,ren,zj,za,refs,z7,cst,zm,isC,bin,una,z6,zd,blt,asArg,zg,zc,zf,z1,zn,unN,ze,zk,zb,GS2,simprocAttr,GZ,c,z8.zz,zA]
 | p :: rest, pre, acc, m, cap, h, hm, hmM => by
  have c:decide ((pre.length:Int)<(g.packs.length:Int))=true:=by simp[h];omega
  have hget:(z8.zq g.packs)[pre.length]? = some p.enc:=by rw[h];simp[z8.zq]
  have hlen:pre.length+rest.length+1≤g.packs.length:=by rw[h];simp;omega
  have hpl:=hB.len.1;have hsl:(strs acc).length=m:=by rw[zo,hm]
  simp only[List.length_cons]at hmM;rw[mw];obtain⟨pn,version,source,sums,dev,zB⟩:=p;simp only[z8.enc]at hget;simp only
  cases q:(pn==name) with
  | true =>
   obtain⟨cap',IH⟩:=T5 name g hB rest (pre++[⟨pn,version,source,sums,dev,zB⟩]) (acc++[version]) (m+1) none (by rw[h];simp) (by simp[hm]) (by omega);rw[show ((pre++[⟨pn,version,source,sums,dev,zB⟩]:List z8).length:Int)=(pre.length:Int)+1 by simp]at IH;rw[show strs (acc++[version])=strs acc++[[.str version]] by simp[strs]]at IH;refine⟨cap',?_⟩;simp only[cond_true,List.length_cons];rw[show m+((ye rest name).length+1)=m+1+(ye rest name).length by omega,show acc++version::ye rest name=(acc++[version])++ye rest name by simp];clear h hB;obtain⟨top,packs⟩:=g;simp only[zy.enc,List.map_cons,List.map_nil]at c hget hlen hpl IH ⊢;generalize (acc++[version])++ye rest name=Z at *;refine zh func121 rfl rfl ?_;simp (disch:=(try simp only[LL]);omega) only[↓GO,↓yQ,GA,GX,ren,zj,za,refs,z7,cst,zm,isC,bin,una,z6,zd,blt,asArg,zg,zc,zf,z1,zn,unN,ze,zk,zb,GS2,simprocAttr,GZ,c,hget,q,z8.zz,zi,hsl,zA,IH,y6]
  | false =>
   obtain⟨cap',IH⟩:=T5 name g hB rest (pre++[⟨pn,version,source,sums,dev,zB⟩]) acc m cap (by rw[h];simp) hm (by omega);rw[show ((pre++[⟨pn,version,source,sums,dev,zB⟩]:List z8).length:Int)=(pre.length:Int)+1 by simp]at IH;refine⟨cap',?_⟩;simp only[cond_false];clear h hB;obtain⟨top,packs⟩:=g;simp only[zy.enc,List.map_cons,List.map_nil]at c hget hlen hpl IH ⊢;generalize acc++ye rest name=Z at *;refine zh func121 rfl rfl ?_;simp (disch:=(try simp only[LL]);omega) only[↓GO,↓yQ,GA,GX,ren,zj,za,refs,z7,cst,zm,isC,bin,una,z6,zd,blt,asArg,zg,zc,zf,z1,zn,unN,ze,zk,zb,GS2,simprocAttr,GZ,c,hget,q,z8.zz,zi,zA,IH]
theorem RM (g:zy)(hB:GB g)(name:Str):zr (EV prog xK) 121 [.agg (g.enc.map .t),.t (.str name)]=some (.t (.list 1 (strs (zS g name)))):=by
 obtain⟨h1,h2⟩:=j5 hB name;have h3:=hB.len;obtain⟨cap,L⟩:=T5 name g hB g.packs [] [] 0 (some 0) rfl rfl (by omega);have d1:=c_svR (ye g.packs name) h1 h2;unfold zS;have hnl:=zo (ye g.packs name);have ht:(strs (ye g.packs name)).take (ye g.packs name).length=strs (ye g.packs name):=by rw[← hnl];simp
 clear hB h2 h3;obtain⟨top,packs⟩:=g;simp only[List.length_nil,Int.natCast_zero,Nat.zero_add,List.nil_append,show strs []=[] from rfl,zy.enc,List.map_cons,List.map_nil]at L d1 ht ⊢;generalize xL [] (ye packs name)=Z at *;generalize ye packs name=N at *;apply zu;refine zx rfl func121 rfl (by kernel_rfl) ?_;unfold Tryz.f121;simp (disch:=(try simp only[LL]);omega) only[↓GO,↓yQ,GA,GX,ren,zj,za,refs,z7,cst,zm,isC,bin,una,z6,zd,blt,asArg,zg,zc,zf,z1,zn,unN,ze,zk,zb,GS2,simprocAttr,GZ,L,d1,ht,z8.zz,zA]
def xB (a b:zy)(name:Str):List zw:=gQ name (woS (zS a name) (zS b name)) (woS (zS b name) (zS a name))
def yE (a b:zy):List zw:=(yR a b).flatMap (xB a b)++a.packs.flatMap (vj b)
def xF (a b:zy):List zw:=cond (zW a&&zW b) (yE a b) []
def eG (l:List Str):Prop:=l.length≤1048576∧∀ s∈l,isV s=true∧s.length≤1048700
theorem tT {g:zy}(hB:GB g)(name:Str):eG (zS g name):=by
 obtain⟨h1,h2⟩:=j5 hB name;unfold zS;obtain⟨k1,k2,k3⟩:=uw (ye g.packs name) [] (fun s hs=>by simp at hs) (by simp[qP]);refine⟨?_,fun s hs=>⟨k1 s hs,?_⟩⟩
 · have:=ni (ye g.packs name) [];simp only[List.length_nil]at this;omega
 · rcases (k3 s).1 hs with h|h
   · simp at h
   · exact h2 s h.1
theorem nW {a:List Str}(h:eG a)(b:List Str):eG (woS a b) :=
 ⟨Nat.le_trans (l8 a b) h.1,fun s hs=>h.2 s (List.mem_filter.1 hs).1⟩
theorem bF (name:Str)(old new:List Str)(i d:Nat):(List.range' i (d+1)).map (u5 name old new)=u5 name old new i::(List.range' (i+1) d).map (u5 name old new):=by
 rw[List.range'_succ];rfl
theorem kI (name:Str)(old new:List Str):gQ name old new=(List.range' 0 (max old.length new.length)).map (u5 name old new):=by
 unfold gQ;rw[List.range_eq_range']
theorem a6 (i n:Nat):(decide ((i:Int)≥(n:Int)))=decide (n≤i):=by
 rw[Bool.eq_iff_iff];simp
theorem Rk (acc:List zw)(x:zw)(r:List zw):acc++x::r=(acc++[x])++r:=by simp
theorem Ux (a b:zy)(t27 t28 t29:T)(name:Str)(old new:List Str)(ho:eG old)(hn:eG new)(M:Nat)(hM:M=max old.length new.length):∀ (d i:Nat) (acc:List zw) (m:Nat) (cap:Option Nat),i+d=M→m=acc.length→m+d≤16777216→∃ cap',
 EV prog xK (.loop 24 125342 0 [.ptr 0 0 0,.ptr 1 0 0,.sl 2 0 m cap,.t (.str name),.t (.list 1 (strs old)),.t (.list 1 (strs new)),.t t27,.t t28,.t t29,.t (.int .i64 (M:Int)),.t (.int .i64 (i:Int))] [.vs 2 [a.enc.map .t],.vs 2 [b.enc.map .t],.ts 4 (zw.zq acc)])
  = some (.loop (.exit 2) [.ptr 0 0 0,.ptr 1 0 0,.sl 2 0 (m+d) cap',.t t27,.t t28,.t t29] [.vs 2 [a.enc.map .t],.vs 2 [b.enc.map .t],.ts 4 (zw.zq (acc++(List.range' i d).map (u5 name old new)))])
 | 0,i,acc,m,cap,hi,hm,hmM=>by
  have c:decide ((i:Int)<(M:Int))=false:=by apply decide_eq_false;omega
  refine⟨cap,?_⟩;simp only[List.range'_zero,List.map_nil,List.append_nil,Nat.add_zero];obtain⟨ta,pa⟩:=a;obtain⟨tb,pb⟩:=b;simp only[zy.enc,List.map_cons,List.map_nil];refine zh func24 rfl rfl ?_;simp (disch:=(try simp only[LL]);omega) only[↓GO,↓yQ,GA,GX,ren,zj,za,refs,z7,cst,zm,isC,bin,una,z6,zd,blt,asArg,zg,zc,zf,z1,zn,unN,ze,zk,zb,GS2,simprocAttr,GZ,c,zA]
 | d + 1, i, acc, m, cap, hi, hm, hmM => by
  have c:decide ((i:Int)<(M:Int))=true:=by apply decide_eq_true;omega
  have hMl:M≤1048576:=by have:=ho.1;have:=hn.1;omega
  have hsl:(zw.zq acc).length=m:=by rw[zw.zz,hm]
  obtain⟨cap',IH⟩:=Ux a b t27 t28 t29 name old new ho hn M hM d (i+1) (acc++[u5 name old new i]) (m+1) none (by omega) (by simp[hm]) (by omega);rw[show ((i+1:Nat):Int)=(i:Int)+1 by omega]at IH;rw[zw.tM]at IH;refine⟨cap',?_⟩;rw[bF,Rk,show m+(d+1)=m+1+d by omega];generalize (acc++[u5 name old new i])++(List.range' (i+1) d).map (u5 name old new)=Z at *;obtain⟨ta,pa⟩:=a;obtain⟨tb,pb⟩:=b;simp only[zy.enc,List.map_cons,List.map_nil]at IH ⊢
  by_cases hnew:i<new.length
  · have hg2:(strs new)[i]? = some [.str new[i]]:=w8 new i hnew;have e2:new[i]? = some new[i]:=List.getElem?_eq_getElem hnew;have c1:decide ((i:Int)≥(new.length:Int))=false:=by rw[a6];simpa using hnew
    have hv2:=hn.2 _ (List.getElem_mem hnew)
    by_cases hold:i<old.length
    · have hg1:(strs old)[i]? = some [.str old[i]]:=w8 old i hold;have e1:old[i]? = some old[i]:=List.getElem?_eq_getElem hold;have c2:decide ((i:Int)≥(old.length:Int))=false:=by rw[a6];simpa using hold
      have hv1:=ho.2 _ (List.getElem_mem hold);have d1:=mP (RS old[i] new[i] hv1.2 hv2.2);rw[YO (xf hv1.1).2.2.1 (xf hv2.1).2.2.1]at d1;rw[show u5 name old new i=cond (decide (xM old[i] new[i]<0)) ⟨2,name,old[i],new[i]⟩ ⟨3,name,old[i],new[i]⟩ by unfold u5;rw[e1,e2]]at IH
      change zr (EV prog xK) 89 _=some (.t (.int .i64 (xM old[i] new[i]))) at d1
      generalize xM old[i] new[i]=ct at *;generalize old[i]=o at *;generalize new[i]=nw at *;clear ho hn hM hv1 hv2 e1 e2
      cases q:decide (ct<0) with
      | true =>
       rw[q,cond_true]at IH;simp only[zw.enc]at IH;refine zh func24 rfl rfl ?_;simp (disch:=(try simp only[LL]);omega) only[↓GO,↓yQ,GA,GX,ren,zj,za,refs,z7,cst,zm,isC,bin,una,z6,zd,blt,asArg,zg,zc,zf,z1,zn,unN,ze,zk,zb,GS2,simprocAttr,GZ,c,c1,c2,hg1,hg2,zo,d1,q,zi,hsl,zA,IH,y6];refine zT (by kernel_rfl) ?_
       first|exact IH|simp (disch:=(try simp only[LL]);omega) only[↓GO,↓yQ,GA,GX,ren,zj,za,refs,z7,cst,zm,isC,bin,una,z6,zd,blt,asArg,zg,zc,zf,z1,zn,unN,ze,zk,zb,GS2,simprocAttr,GZ,IH,zi,zA]
      | false =>
       rw[q,cond_false]at IH;simp only[zw.enc]at IH;refine zh func24 rfl rfl ?_;simp (disch:=(try simp only[LL]);omega) only[↓GO,↓yQ,GA,GX,ren,zj,za,refs,z7,cst,zm,isC,bin,una,z6,zd,blt,asArg,zg,zc,zf,z1,zn,unN,ze,zk,zb,GS2,simprocAttr,GZ,c,c1,c2,hg1,hg2,zo,d1,q,zi,hsl,zA,IH,y6];refine zT (by kernel_rfl) ?_
       first|exact IH|simp (disch:=(try simp only[LL]);omega) only[↓GO,↓yQ,GA,GX,ren,zj,za,refs,z7,cst,zm,isC,bin,una,z6,zd,blt,asArg,zg,zc,zf,z1,zn,unN,ze,zk,zb,GS2,simprocAttr,GZ,IH,zi,zA]
    · have e1:old[i]? = none:=List.getElem?_eq_none (by omega);have c2:decide ((i:Int)≥(old.length:Int))=true:=by rw[a6];simpa using hold
      rw[show u5 name old new i=⟨0,name,[],new[i]⟩ by unfold u5;rw[e1,e2]]at IH;simp only[zw.enc]at IH;generalize new[i]=nw at *;clear ho hn hM e1 e2;refine zh func24 rfl rfl ?_;simp (disch:=(try simp only[LL]);omega) only[↓GO,↓yQ,GA,GX,ren,zj,za,refs,z7,cst,zm,isC,bin,una,z6,zd,blt,asArg,zg,zc,zf,z1,zn,unN,ze,zk,zb,GS2,simprocAttr,GZ,c,c1,c2,hg2,zo,zi,hsl,zA,IH,y6]
  · have hold:i<old.length:=by omega
    have hg1:(strs old)[i]? = some [.str old[i]]:=w8 old i hold;have e1:old[i]? = some old[i]:=List.getElem?_eq_getElem hold;have e2:new[i]? = none:=List.getElem?_eq_none (by omega);have c1:decide ((i:Int)≥(new.length:Int))=true:=by rw[a6];simpa using hnew
    rw[show u5 name old new i=⟨1,name,old[i],[]⟩ by unfold u5;rw[e1,e2]]at IH;simp only[zw.enc]at IH;generalize old[i]=o at *;clear ho hn hM e1 e2;refine zh func24 rfl rfl ?_;simp (disch:=(try simp only[LL]);omega) only[↓GO,↓yQ,GA,GX,ren,zj,za,refs,z7,cst,zm,isC,bin,una,z6,zd,blt,asArg,zg,zc,zf,z1,zn,unN,ze,zk,zb,GS2,simprocAttr,GZ,c,c1,hg1,zo,zi,hsl,zA,IH,y6]
theorem mX {g:zy}(h:zW g=true):g.packs.length≤40:=by
 unfold zW at h;simp only[Bool.and_eq_true,decide_eq_true_eq]at h;omega
theorem jW (g:zy)(name:Str):(zS g name).length≤g.packs.length:=by
 have:=ni (ye g.packs name) [];have h2:=kc g.packs name;unfold zS;simp only[List.length_nil]at this;omega
theorem s8 {a b:zy}(ha:zW a=true)(hb:zW b=true)(n:Str):(xB a b n).length≤40:=by
 unfold xB;rw[s7];have h1:=l8 (zS a n) (zS b n);have h2:=l8 (zS b n) (zS a n);have h3:=jW a n;have h4:=jW b n;have h5:=mX ha;have h6:=mX hb;omega
theorem Uw (a b:zy)(ha:GB a)(hb:GB b)(oa:zW a=true)(ob:zW b=true)(ns:List Str)(hl:ns.length≤80):∀ (rest pre:List Str) (acc:List zw) (m:Nat) (cap:Option Nat),ns=pre++rest→m=acc.length→m+40*rest.length≤1048576→∃ cap',
 EV prog xK (.loop 24 122 0 [.ptr 0 0 0,.ptr 1 0 0,.sl 2 0 m cap,.t (.list 1 (strs ns)),.t (.int .i64 (ns.length:Int)),.t (.int .i64 (pre.length:Int))] [.vs 2 [a.enc.map .t],.vs 2 [b.enc.map .t],.ts 4 (zw.zq acc)])
  = some (.loop (.exit 0) [.ptr 0 0 0,.ptr 1 0 0,.sl 2 0 (acc++rest.flatMap (xB a b)).length cap'] [.vs 2 [a.enc.map .t],.vs 2 [b.enc.map .t],.ts 4 (zw.zq (acc++rest.flatMap (xB a b)))])
 | [],pre,acc,m,cap,h,hm,hmM=>by
  have c:decide ((pre.length:Int)<(ns.length:Int))=false:=by simp[h]
  refine⟨cap,?_⟩;rw[List.flatMap_nil,List.append_nil,← hm];clear ha hb oa ob;obtain⟨ta,pa⟩:=a;obtain⟨tb,pb⟩:=b;simp only[zy.enc,List.map_cons,List.map_nil];refine zh func24 rfl rfl ?_;simp (disch:=(try simp only[LL]);omega) only[↓GO,↓yQ,GA,GX,ren,zj,za,refs,z7,cst,zm,isC,bin,una,z6,zd,blt,asArg,zg,zc,zf,z1,zn,unN,ze,zk,zb,GS2,simprocAttr,GZ,c,zA]
 | x::rest,pre,acc,m,cap,h,hm,hmM=>by
  have c:decide ((pre.length:Int)<(ns.length:Int))=true:=by simp[h];omega
  have hget:(strs ns)[pre.length]? = some [.str x]:=x9 (by rw[h];simp);have hlen:pre.length+rest.length+1≤ns.length:=by rw[h];simp;omega
  simp only[List.length_cons]at hmM;have va:=tT ha x;have vb:=tT hb x;have d1:=RN a ha x;have d2:=RN b hb x;have d3:=mP (RJ (zS a x) (zS b x) va.1 vb.1);have d4:=mP (RJ (zS b x) (zS a x) vb.1 va.1);have wo:=nW va (zS b x);have wn:=nW vb (zS a x);have hcl:=s8 oa ob x;have hcl':=hcl;unfold xB at hcl';rw[s7]at hcl';obtain⟨cap1,L⟩:=Ux a b (.list 1 (strs ns)) (.int .i64 (ns.length:Int)) (.int .i64 (pre.length:Int)) x (woS (zS a x) (zS b x)) (woS (zS b x) (zS a x)) wo wn _ rfl (max (woS (zS a x) (zS b x)).length (woS (zS b x) (zS a x)).length) 0 acc m cap (by omega) hm (by omega);rw[← kI,show gQ x (woS (zS a x) (zS b x)) (woS (zS b x) (zS a x))=xB a b x from rfl]at L;have hcn:max (woS (zS a x) (zS b x)).length (woS (zS b x) (zS a x)).length=(xB a b x).length:=by unfold xB;rw[s7]
  obtain⟨cap',IH⟩:=Uw a b ha hb oa ob ns hl rest (pre++[x]) (acc++xB a b x) (m+(xB a b x).length) cap1 (by rw[h];simp) (by simp[hm]) (by omega);rw[show ((pre++[x]).length:Int)=(pre.length:Int)+1 by simp]at IH;refine⟨cap',?_⟩;rw[List.flatMap_cons,← List.append_assoc];have hmx:∀ o n:Nat,(if (n:Int) > (o:Int) then (n:Int) else (o:Int))=((max o n:Nat):Int):=fun o n=>by split<;>omega
  have hmax:=hmx (woS (zS a x) (zS b x)).length (woS (zS b x) (zS a x)).length;rw[hcn]at L hmax;have hol:=zo (woS (zS a x) (zS b x));have hnl:=zo (woS (zS b x) (zS a x));clear h ha hb oa ob va vb wo wn hcn hcl';generalize (acc++xB a b x)++rest.flatMap (xB a b)=Z at *;generalize hcg:(xB a b x).length=cg at *;generalize xB a b x=CG at *;generalize woS (zS a x) (zS b x)=old at *;generalize woS (zS b x) (zS a x)=new at *;generalize zS a x=VA at *;generalize zS b x=VB at *;obtain⟨ta,pa⟩:=a;obtain⟨tb,pb⟩:=b;simp only[zy.enc,List.map_cons,List.map_nil,Int.natCast_zero]at d1 d2 L IH ⊢;refine zh func24 rfl rfl ?_;simp (disch:=(try simp only[LL]);omega) only[↓GO,↓yQ,GA,GX,ren,zj,za,refs,z7,cst,zm,isC,bin,una,z6,zd,blt,asArg,zg,zc,zf,z1,zn,unN,ze,zk,zb,GS2,simprocAttr,GZ,c,hget,d1,d2,d3,d4,hol,hnl,hmax,L,zi,zA,IH]
theorem Vh (b:zy)(p:z8):(vj b p).length≤1:=by
 unfold vj
 cases sf b.packs (keyOf p) with
 | none=>simp
 | some q=>simp only;cases wg p q<;>simp
theorem ev (b:zy)(hb:GB b)(cs:List z8)(hl:cs.length≤40)(hcb:∀ p∈cs,p.y0≤1048576):∀ (rest pre:List z8) (acc:List zw) (m:Nat) (cap:Option Nat),cs=pre++rest→m=acc.length→m+rest.length≤1048576→∃ cap',
 EV prog xK (.loop 24 250 0 [.ptr 0 0 0,.sl 1 0 m cap,.t (.list 6 (z8.zq cs)),.t (.int .i64 (cs.length:Int)),.t (.int .i64 (pre.length:Int))] [.vs 2 [b.enc.map .t],.ts 4 (zw.zq acc)])
  = some (.loop (.exit 5) [.sl 0 0 (acc++rest.flatMap (vj b)).length cap'] [.ts 4 (zw.zq (acc++rest.flatMap (vj b)))])
 | [],pre,acc,m,cap,h,hm,hmM=>by
  have c:decide ((pre.length:Int)<(cs.length:Int))=false:=by simp[h]
  refine⟨cap,?_⟩;rw[List.flatMap_nil,List.append_nil,← hm];clear hb;obtain⟨tb,pb⟩:=b;simp only[zy.enc,List.map_cons,List.map_nil];refine zh func24 rfl rfl ?_;simp (disch:=(try simp only[LL]);omega) only[↓GO,↓yQ,GA,GX,ren,zj,za,refs,z7,cst,zm,isC,bin,una,z6,zd,blt,asArg,zg,zc,zf,z1,zn,unN,ze,zk,zb,GS2,simprocAttr,GZ,c,zA]
 | p :: rest, pre, acc, m, cap, h, hm, hmM => by
  have c:decide ((pre.length:Int)<(cs.length:Int))=true:=by simp[h];omega
  have hget:(z8.zq cs)[pre.length]? = some p.enc:=by rw[h];simp[z8.zq]
  have hlen:pre.length+rest.length+1≤cs.length:=by rw[h];simp;omega
  have hpb:=hcb p (by rw[h];simp);have hsl:(zw.zq acc).length=m:=by rw[zw.zz,hm]
  simp only[List.length_cons]at hmM;have d1:=mP (ey p (by omega));have d2:=mP (qg b (keyOf p) hb);rw[List.flatMap_cons,← List.append_assoc]
  cases hf:sf b.packs (keyOf p) with
  | none =>
   rw[bf hf]at d2;simp only[ixI]at d2;have c2:decide ((-1:Int)≥0)=false:=rfl;rw[show vj b p=[] by unfold vj;rw[hf],List.append_nil];obtain⟨cap',IH⟩:=ev b hb cs hl hcb rest (pre++[p]) acc m cap (by rw[h];simp) hm (by omega);rw[show ((pre++[p]).length:Int)=(pre.length:Int)+1 by simp]at IH;refine⟨cap',?_⟩;clear h hb hf hcb;generalize acc++rest.flatMap (vj b)=Z at *;generalize keyOf p=kp at *;obtain⟨tb,pb⟩:=b;obtain⟨pn,version,source,sums,dev,zB⟩:=p;simp only[zy.enc,z8.enc,List.map_cons,List.map_nil]at hget d1 d2 IH ⊢;refine zh func24 rfl rfl ?_;simp (disch:=(try simp only[LL]);omega) only[↓GO,↓yQ,GA,GX,ren,zj,za,refs,z7,cst,zm,isC,bin,una,z6,zd,blt,asArg,zg,zc,zf,z1,zn,unN,ze,zk,zb,GS2,simprocAttr,GZ,c,hget,d1,d2,c2,zi,zA,IH]
  | some q =>
   obtain⟨hq,hkq,i,hi,hpi⟩:=oy hf;rw[hi]at d2;simp only[ixI]at d2;have c2:decide ((i:Int)≥0)=true:=by simp
   have hgq:(z8.zq b.packs)[i]? = some q.enc:=by unfold z8.zq;rw[List.getElem?_map,hpi];rfl
   have d3:=mP (c_spI p q hpb)
   cases hs:wg p q with
   | true =>
    rw[hs]at d3;rw[show vj b p=[] by unfold vj;rw[hf];simp only[hs,cond_true],List.append_nil];obtain⟨cap',IH⟩:=ev b hb cs hl hcb rest (pre++[p]) acc m cap (by rw[h];simp) hm (by omega);rw[show ((pre++[p]).length:Int)=(pre.length:Int)+1 by simp]at IH;refine⟨cap',?_⟩;clear h hb hf hcb hq hkq hi hpi hs;generalize acc++rest.flatMap (vj b)=Z at *;generalize keyOf p=kp at *;obtain⟨tb,pb⟩:=b;obtain⟨pn,version,source,sums,dev,zB⟩:=p;obtain⟨pn',version',source',sums',dev',needs'⟩:=q;simp only[zy.enc,z8.enc,List.map_cons,List.map_nil]at hget hgq d1 d2 d3 IH ⊢;refine zh func24 rfl rfl ?_;simp (disch:=(try simp only[LL]);omega) only[↓GO,↓yQ,GA,GX,ren,zj,za,refs,z7,cst,zm,isC,bin,una,z6,zd,blt,asArg,zg,zc,zf,z1,zn,unN,ze,zk,zb,GS2,simprocAttr,GZ,c,hget,d1,d2,c2,hgq,d3,Bool.not_true,zi,zA,IH]
   | false =>
    rw[hs]at d3;rw[show vj b p=[⟨4,p.name,p.version,p.version⟩] by unfold vj;rw[hf];simp only[hs,cond_false]];obtain⟨cap',IH⟩:=ev b hb cs hl hcb rest (pre++[p]) (acc++[⟨4,p.name,p.version,p.version⟩]) (m+1) none (by rw[h];simp) (by simp[hm]) (by omega);rw[show ((pre++[p]).length:Int)=(pre.length:Int)+1 by simp]at IH;rw[zw.tM]at IH;refine⟨cap',?_⟩;clear h hb hf hcb hq hkq hi hpi hs;generalize acc++[⟨4,p.name,p.version,p.version⟩]++rest.flatMap (vj b)=Z at *;generalize keyOf p=kp at *;obtain⟨tb,pb⟩:=b;obtain⟨pn,version,source,sums,dev,zB⟩:=p;obtain⟨pn',version',source',sums',dev',needs'⟩:=q;simp only[zy.enc,z8.enc,zw.enc,List.map_cons,List.map_nil]at hget hgq d1 d2 d3 IH ⊢;refine zh func24 rfl rfl ?_;simp (disch:=(try simp only[LL]);omega) only[↓GO,↓yQ,GA,GX,ren,zj,za,refs,z7,cst,zm,isC,bin,una,z6,zd,blt,asArg,zg,zc,zf,z1,zn,unN,ze,zk,zb,GS2,simprocAttr,GZ,c,hget,d1,d2,c2,hgq,d3,Bool.not_false,zi,hsl,zA,IH,y6]
theorem pe (a b:zy):(yR a b).length≤a.packs.length+b.packs.length:=by
 unfold yR;rw[lH];have:=pt ((a.packs++b.packs).map (·.name)) [];simp only[List.length_nil,List.length_map,List.length_append]at this;omega
theorem tL {α β:Type}(f:α→List β)(k:Nat)(h:∀ x,(f x).length≤k):∀ l:List α,(l.flatMap f).length≤k*l.length
 | []=>by simp
 | x::r=>by
  have h1:=tL f k h r;have h2:=h x;rw[List.flatMap_cons,List.length_append,List.length_cons,Nat.mul_add];omega
theorem gY {a b:zy}(oa:zW a=true)(ob:zW b=true):(yE a b).length≤4096:=by
 have h1:=pe a b;have h2:=mX oa;have h3:=mX ob;have h4:=tL (xB a b) 40 (s8 oa ob) (yR a b);have h5:=tL (vj b) 1 (Vh b) a.packs;unfold yE;rw[List.length_append];omega
theorem QK (a b:zy)(ha:GB a)(hb:GB b)(oa:zW a=true)(ob:zW b=true) :
 zr (EV prog xK) 24 [.agg (a.enc.map .t),.agg (b.enc.map .t)]=some (.t (.list 4 (zw.zq (yE a b)))):=by
 have e1:=mP (eA a ha);have e2:=mP (eA b hb);rw[oa]at e1;rw[ob]at e2;have d1:=mP (c_nmI a b ha hb);have h1:=pe a b;have h2:=mX oa;have h3:=mX ob;have hcb:=ha.len.2.2;obtain⟨cap1,L1⟩:=Uw a b ha hb oa ob (yR a b) (by omega) (yR a b) [] [] 0 (some 0) rfl rfl (by omega);have h4:=tL (xB a b) 40 (s8 oa ob) (yR a b);obtain⟨cap2,L2⟩:=ev b hb a.packs h2 hcb a.packs [] ((yR a b).flatMap (xB a b)) _ cap1 rfl rfl (by omega);rw[show (yR a b).flatMap (xB a b)++a.packs.flatMap (vj b)=yE a b from rfl]at L2;simp only[List.length_nil,Int.natCast_zero,List.nil_append,show zw.zq []=[] from rfl]at L1 L2;have hnl:=zo (yR a b);have ht:(zw.zq (yE a b)).take (yE a b).length=zw.zq (yE a b):=by rw[← zw.zz (yE a b)];simp
 clear ha hb oa ob hcb;generalize yE a b=Z at *;generalize (yR a b).flatMap (xB a b)=Y at *;generalize yR a b=ns at *;obtain⟨ta,pa⟩:=a;obtain⟨tb,pb⟩:=b;simp only[zy.enc,List.map_cons,List.map_nil]at e1 e2 d1 L1 L2 ⊢;apply zu;refine zx rfl func24 rfl (by kernel_rfl) ?_;unfold Tryz.f24;simp (disch:=(try simp only[LL]);omega) only[↓GO,↓yQ,GA,GX,ren,zj,za,refs,z7,cst,zm,isC,bin,una,z6,zd,blt,asArg,zg,zc,zf,z1,zn,unN,ze,zk,zb,GS2,simprocAttr,GZ,ht,e1,e2,d1,hnl,L1,L2,z8.zz,Bool.not_true,zA]
theorem Wa (a b:zy)(ha:GB a)(hb:GB b)(h:(zW a&&zW b)=false) :
 zr (EV prog xK) 24 [.agg (a.enc.map .t),.agg (b.enc.map .t)]=some (.t (.list 4 [])):=by
 have e1:=mP (eA a ha);have e2:=mP (eA b hb);clear ha hb
 cases oa:zW a with
 | false =>
  rw[oa]at e1;clear e2 h oa;obtain⟨ta,pa⟩:=a;obtain⟨tb,pb⟩:=b;simp only[zy.enc,List.map_cons,List.map_nil]at e1 ⊢;apply zu;refine zx rfl func24 rfl (by kernel_rfl) ?_;unfold Tryz.f24;simp (disch:=(try simp only[LL]);omega) only[↓GO,↓yQ,GA,GX,ren,zj,za,refs,z7,cst,zm,isC,bin,una,z6,zd,blt,asArg,zg,zc,zf,z1,zn,unN,ze,zk,zb,GS2,simprocAttr,GZ,e1,Bool.not_false,zA]
 | true =>
  rw[oa,Bool.true_and]at h;rw[oa]at e1;rw[h]at e2;clear h oa;obtain⟨ta,pa⟩:=a;obtain⟨tb,pb⟩:=b;simp only[zy.enc,List.map_cons,List.map_nil]at e1 e2 ⊢;apply zu;refine zx rfl func24 rfl (by kernel_rfl) ?_;unfold Tryz.f24;simp (disch:=(try simp only[LL]);omega) only[↓GO,↓yQ,GA,GX,ren,zj,za,refs,z7,cst,zm,isC,bin,una,z6,zd,blt,asArg,zg,zc,zf,z1,zn,unN,ze,zk,zb,GS2,simprocAttr,GZ,e1,e2,Bool.not_false,Bool.not_true,zA]
theorem aA {s:Str}(h:(wE s).isSome=true):isV s=true:=by
 unfold wE at h
 cases hs:(zJ s).2 with
 | true=>exact hs
 | false=>rw[hs]at h;cases h
theorem ao {p:z8}(h:vN p=true):isV p.version=true:=by
 unfold vN at h;simp only[Bool.and_eq_true]at h;exact aA h.2.1
theorem tE {g:zy}(hg:zW g=true)(name s:Str):s∈zS g name↔∃ p∈g.packs,p.name=name∧p.version=s:=by
 obtain⟨_,_,h3⟩:=uw (ye g.packs name) [] (fun s hs=>by simp at hs) (by simp[qP]);unfold zS;rw[h3];unfold ye;constructor
 · rintro (h|⟨h,_⟩)
   · simp at h
   · obtain⟨p,hp,e⟩:=List.mem_map.1 h;obtain⟨h1,h2⟩:=List.mem_filter.1 hp;exact⟨p,h1,by simpa using h2,e⟩
 · rintro⟨p,hp,e1,e2⟩
   refine .inr ⟨List.mem_map.2 ⟨p,List.mem_filter.2 ⟨hp,by simpa using e1⟩,e2⟩,?_⟩;rw[← e2];exact ao (qI hg p hp).1
theorem jX (g:zy)(name:Str):∀ s∈zS g name,isV s=true :=
 (uw (ye g.packs name) [] (fun s hs=>by simp at hs) (by simp[qP])).1
theorem Qm {s:Str}(h:isV s=true):(64:UInt8)∉s:=by
 intro hm;have h1:=Uy (c:=64) (by decide) hm;rw[h1]at h
 cases h
theorem jd {g:zy}(hg:zW g=true){name s:Str}(hs:isV s=true):pB g.packs ((name++[64])++s)=true↔s∈zS g name:=by
 rw[nD,vI,tE hg];constructor
 · rintro⟨p,hp,e⟩
   have h1:=eL (qI hg p hp).1;rw[e,pG _ _ (Qm hs)]at h1;injection h1 with a1 a2;exact⟨p,hp,a1.symm,a2.symm⟩
 · rintro⟨p,hp,e1,e2⟩
   exact⟨p,hp,by unfold keyOf;rw[e1,e2]⟩
structure P0 (a b:zy) (c:zw):Prop where
 kind:c.kind=0∨c.kind=1∨c.kind=2∨c.kind=3∨c.kind=4
 old:c.old≠[]→pB a.packs ((c.name++[64])++c.old)=true
 new:c.new≠[]→pB b.packs ((c.name++[64])++c.new)=true
 oldN:c.kind≠4→c.old≠[]→pB b.packs ((c.name++[64])++c.old)=false
 newN:c.kind≠4→c.new≠[]→pB a.packs ((c.name++[64])++c.new)=false
theorem ug {a b:List Str}{s:Str}:s∈woS a b↔s∈a∧s∉b:=by
 unfold woS;rw[List.mem_filter,Bool.not_eq_true',← Bool.not_eq_true,Vf]
theorem Yq {g:zy}(hg:zW g=true){name s:Str}(hs:isV s=true)(h:s∉zS g name):pB g.packs ((name++[64])++s)=false:=by
 cases hk:pB g.packs ((name++[64])++s) with
 | false=>rfl
 | true=>exact absurd ((jd hg hs).1 hk) h
theorem rB {a b:zy}(oa:zW a=true)(ob:zW b=true){c:zw}(hk:c.kind=0∨c.kind=1∨c.kind=2∨c.kind=3)(ho:c.old≠[]→c.old∈woS (zS a c.name) (zS b c.name))(hn:c.new≠[]→c.new∈woS (zS b c.name) (zS a c.name)):P0 a b c:=by
 have o1:c.old≠[]→isV c.old=true:=fun h=>jX a c.name _ (ug.1 (ho h)).1
 have n1:c.new≠[]→isV c.new=true:=fun h=>jX b c.name _ (ug.1 (hn h)).1
 exact⟨by omega,fun h=>(jd oa (o1 h)).2 (ug.1 (ho h)).1,fun h=>(jd ob (n1 h)).2 (ug.1 (hn h)).1,fun _ h=>Yq ob (o1 h) (ug.1 (ho h)).2,fun _ h=>Yq oa (n1 h) (ug.1 (hn h)).2⟩
theorem gW {a b:zy}(oa:zW a=true)(ob:zW b=true):∀ c∈yE a b,P0 a b c:=fun c hc=>by
 unfold yE at hc;rcases List.mem_append.1 hc with hc|hc
 · obtain⟨name,_,hc⟩:=List.mem_flatMap.1 hc;unfold xB gQ at hc;obtain⟨i,_,rfl⟩:=List.mem_map.1 hc;generalize hO:woS (zS a name) (zS b name)=O;generalize hN:woS (zS b name) (zS a name)=N';have eo:∀ o,O[i]? = some o→o∈woS (zS a name) (zS b name):=fun o h=>by rw[hO];exact List.mem_of_getElem? h
   have en:∀ o,N'[i]? = some o→o∈woS (zS b name) (zS a name):=fun o h=>by rw[hN];exact List.mem_of_getElem? h
   unfold u5
   cases h1:O[i]? with
   | none=>cases h2:N'[i]? with
    | none=>exact rB oa ob (.inr (.inr (.inr rfl))) (fun h=>absurd rfl h) (fun h=>absurd rfl h)
    | some n=>exact rB oa ob (.inl rfl) (fun h=>absurd rfl h) (fun _=>en n h2)
   | some o => cases h2 : N'[i]? with
    | none=>exact rB oa ob (.inr (.inl rfl)) (fun _=>eo o h1) (fun h=>absurd rfl h)
    | some n =>
     simp only
     cases decide (xM o n<0) with
     | true=>exact rB oa ob (.inr (.inr (.inl rfl))) (fun _=>eo o h1) (fun _=>en n h2)
     | false=>exact rB oa ob (.inr (.inr (.inr rfl))) (fun _=>eo o h1) (fun _=>en n h2)
 · obtain⟨p,hp,hc⟩:=List.mem_flatMap.1 hc;unfold vj at hc
   cases hq:sf b.packs (keyOf p) with
   | none=>rw[hq]at hc;simp at hc
   | some q =>
    rw[hq]at hc;obtain⟨h1,h2,_⟩:=oy hq;simp only at hc
    cases hs:wg p q with
    | true=>rw[hs]at hc;simp at hc
    | false =>
     rw[hs,cond_false]at hc;obtain rfl:=List.mem_singleton.1 hc;refine⟨.inr (.inr (.inr (.inr rfl))),fun _=>?_,fun _=>?_,fun h=>absurd rfl h,fun h=>absurd rfl h⟩
     · exact (nD _ _).2 ((vI _ _).2 ⟨p,hp,rfl⟩)
     · exact (nD _ _).2 ((vI _ _).2 ⟨q,h1,h2⟩)
theorem Wj (l:List Str):woS l l=[]:=by
 cases h:woS l l with
 | nil=>rfl
 | cons x r =>
  have:=ug.1 (show x∈woS l l by rw[h];simp);exact absurd this.1 this.2
theorem sU {a b:zy}(oa:zW a=true)(e:a.packs=b.packs):yE a b=[]:=by
 unfold yE;rw[List.append_eq_nil_iff,List.flatMap_eq_nil_iff,List.flatMap_eq_nil_iff];constructor
 · intro name _;have hv:zS b name=zS a name:=by unfold zS;rw[e]
   unfold xB;rw[hv,Wj];rfl
 · intro p hp;unfold vj;rw[← e,ko (wY oa) hp];simp only;rw[nn.2 rfl];rfl
theorem bG {name:Str}{old new:List Str}(h:gQ name old new=[]):old=[]∧new=[]:=by
 have:=s7 name old new;rw[h,List.length_nil]at this;exact⟨List.eq_nil_of_length_eq_zero (by omega),List.eq_nil_of_length_eq_zero (by omega)⟩
theorem kd (a b:zy)(s:Str):s∈yR a b↔(∃ p∈a.packs,p.name=s)∨∃ p∈b.packs,p.name=s:=by
 unfold yR;rw[lI,List.map_append,List.mem_append,List.mem_map,List.mem_map]
theorem gX {a b:zy}(oa:zW a=true)(ob:zW b=true)(h:yE a b=[]):a.packs=b.packs:=by
 unfold yE at h;rw[List.append_eq_nil_iff,List.flatMap_eq_nil_iff,List.flatMap_eq_nil_iff]at h;obtain⟨h1,h2⟩:=h
 have hk : qm a.packs = qm b.packs := by
  refine qQ.uniq (iN.1 (wY oa)) (iN.1 (wY ob)) fun s=>?_
  rw[vI,vI];constructor
  · rintro⟨p,hp,rfl⟩
    have h3:=h1 p.name ((kd a b _).2 (.inl ⟨p,hp,rfl⟩));obtain⟨h4,_⟩:=bG h3;have hm:p.version∈zS b p.name:=by
     cases hc:decide (p.version∈zS b p.name) with
     | true=>exact of_decide_eq_true hc
     | false =>
      have:p.version∈woS (zS a p.name) (zS b p.name):=ug.2 ⟨(tE oa _ _).2 ⟨p,hp,rfl,rfl⟩,of_decide_eq_false hc⟩;rw[h4]at this;simp at this
    obtain⟨q,hq,e1,e2⟩:=(tE ob _ _).1 hm;exact⟨q,hq,by unfold keyOf;rw[e1,e2]⟩
  · rintro⟨p,hp,rfl⟩
    have h3:=h1 p.name ((kd a b _).2 (.inr ⟨p,hp,rfl⟩));obtain⟨_,h4⟩:=bG h3;have hm:p.version∈zS a p.name:=by
     cases hc:decide (p.version∈zS a p.name) with
     | true=>exact of_decide_eq_true hc
     | false =>
      have:p.version∈woS (zS b p.name) (zS a p.name):=ug.2 ⟨(tE ob _ _).2 ⟨p,hp,rfl,rfl⟩,of_decide_eq_false hc⟩;rw[h4]at this;simp at this
    obtain⟨q,hq,e1,e2⟩:=(tE oa _ _).1 hm;exact⟨q,hq,by unfold keyOf;rw[e1,e2]⟩
 refine kK.uniq (wY oa) (wY ob) hk fun p hp=>?_
 have hs:keyOf p∈qm b.packs:=by rw[← hk];exact (vI _ _).2 ⟨p,hp,rfl⟩
 obtain⟨q,hq,e⟩:=(vI _ _).1 hs;have h3:=h2 p hp;unfold vj at h3;rw[← e,ko (wY ob) hq]at h3;simp only at h3
 cases hc:wg p q with
 | false=>rw[hc]at h3;cases h3
 | true=>rw[nn.1 hc];exact hq
theorem jO (a:zy):xF a a=[]:=by
 unfold xF
 cases oa:zW a with
 | false=>rfl
 | true=>exact sU oa rfl
theorem lD {a b:zy}(oa:zW a=true)(ob:zW b=true):((xF a b).length==0)=wC a.packs b.packs:=by
 unfold xF;rw[oa,ob]
 show ((yE a b).length==0)=_
 cases hs:wC a.packs b.packs with
 | true=>rw[sU oa (nj.1 hs)];rfl
 | false =>
  rw[beq_eq_false_iff_ne];intro e;have:=gX oa ob (List.eq_nil_of_length_eq_zero e);rw[nj.2 this]at hs
  cases hs
theorem ew {ps:List z8}{k:Str}:decide (ixI (vd ps k)<0) = !(pB ps k):=aY _ ps
def uO (c:zw):Str :=
 cond (c.kind==0) (([43,32]++c.name++[64])++c.new) (cond (c.kind==1) (([45,32]++c.name++[64])++c.old) (cond (c.kind==2) (((([94,32]++c.name++[64])++c.old)++[32])++c.new)
  (cond (c.kind==3) (((([118,32]++c.name++[64])++c.old)++[32])++c.new) (cond (c.kind==4) (([126,32]++c.name++[64])++c.new) []))))
theorem W7 {c:zw}(h:c.kind=0∨c.kind=1∨c.kind=2∨c.kind=3∨c.kind=4):(uO c==[])=false:=by
 rw[beq_eq_false_iff_ne];unfold uO;rcases h with h|h|h|h|h<;>rw[h]<;>simp
theorem vv {α:Type}{a b:Nat}{x y:α}(h:a≤b):(if a≤b then x else y)=x:=if_pos h
theorem UK (c:zw)(hb:c.y0≤4194304):zr (EV prog pol) 27 [.agg (c.enc.map .t)]=some (.t (.str (uO c))):=by
 obtain⟨kind,name,old,new⟩:=c;unfold zw.y0 at hb;unfold uO;simp only[zw.enc,List.map_cons,List.map_nil]at hb ⊢
 cases q0:(kind==0) with
 | true =>
  simp only[cond_true];apply zu;refine zx rfl func27 rfl (by kernel_rfl) ?_;unfold Tryz.f27;simp (maxSteps:=1000000) (disch:=(try simp only[LL]);omega) only[↓GO,↓DRW,GA,GX,ren,zj,za,refs,z7,cst,zm,isC,bin,una,z6,zd,blt,asArg,zg,zc,zf,z1,zn,unN,ze,zk,zb,GS,simprocAttr,zD,zE,yG,yA,yD,yC,yH,gh1,yz,yr,yu,zR,mkO,yn,yf,yg,mvC,unO,zX,yF,yB,yw,zI,yx,yv,zY,oc,oTs,oT,zQ,zQ.rowTs,yt,isL,E.BX,GZ,q0,vv,Option.map_some,if_true,List.length_append,List.length_cons,List.length_nil,zA]
 | false =>
  cases q1:(kind==1) with
  | true =>
   simp only[cond_true,cond_false];apply zu;refine zx rfl func27 rfl (by kernel_rfl) ?_;unfold Tryz.f27;simp (maxSteps:=1000000) (disch:=(try simp only[LL]);omega) only[↓GO,↓DRW,GA,GX,ren,zj,za,refs,z7,cst,zm,isC,bin,una,z6,zd,blt,asArg,zg,zc,zf,z1,zn,unN,ze,zk,zb,GS,simprocAttr,zD,zE,yG,yA,yD,yC,yH,gh1,yz,yr,yu,zR,mkO,yn,yf,yg,mvC,unO,zX,yF,yB,yw,zI,yx,yv,zY,oc,oTs,oT,zQ,zQ.rowTs,yt,isL,E.BX,GZ,q0,q1,vv,Option.map_some,if_true,List.length_append,List.length_cons,List.length_nil,zA]
  | false =>
   cases q2:(kind==2) with
   | true =>
    simp only[cond_true,cond_false];apply zu;refine zx rfl func27 rfl (by kernel_rfl) ?_;unfold Tryz.f27;simp (maxSteps:=1000000) (disch:=(try simp only[LL]);omega) only[↓GO,↓DRW,GA,GX,ren,zj,za,refs,z7,cst,zm,isC,bin,una,z6,zd,blt,asArg,zg,zc,zf,z1,zn,unN,ze,zk,zb,GS,simprocAttr,zD,zE,yG,yA,yD,yC,yH,gh1,yz,yr,yu,zR,mkO,yn,yf,yg,mvC,unO,zX,yF,yB,yw,zI,yx,yv,zY,oc,oTs,oT,zQ,zQ.rowTs,yt,isL,E.BX,GZ,q0,q1,q2,vv,Option.map_some,if_true,List.length_append,List.length_cons,List.length_nil,zA]
   | false =>
    cases q3:(kind==3) with
    | true =>
     simp only[cond_true,cond_false];apply zu;refine zx rfl func27 rfl (by kernel_rfl) ?_;unfold Tryz.f27;simp (maxSteps:=1000000) (disch:=(try simp only[LL]);omega) only[↓GO,↓DRW,GA,GX,ren,zj,za,refs,z7,cst,zm,isC,bin,una,z6,zd,blt,asArg,zg,zc,zf,z1,zn,unN,ze,zk,zb,GS,simprocAttr,zD,zE,yG,yA,yD,yC,yH,gh1,yz,yr,yu,zR,mkO,yn,yf,yg,mvC,unO,zX,yF,yB,yw,zI,yx,yv,zY,oc,oTs,oT,zQ,zQ.rowTs,yt,isL,E.BX,GZ,q0,q1,q2,q3,vv,Option.map_some,if_true,List.length_append,List.length_cons,List.length_nil,zA]
    | false =>
     cases q4:(kind==4) with
     | true =>
      simp only[cond_true,cond_false];apply zu;refine zx rfl func27 rfl (by kernel_rfl) ?_;unfold Tryz.f27;simp (maxSteps:=1000000) (disch:=(try simp only[LL]);omega) only[↓GO,↓DRW,GA,GX,ren,zj,za,refs,z7,cst,zm,isC,bin,una,z6,zd,blt,asArg,zg,zc,zf,z1,zn,unN,ze,zk,zb,GS,simprocAttr,zD,zE,yG,yA,yD,yC,yH,gh1,yz,yr,yu,zR,mkO,yn,yf,yg,mvC,unO,zX,yF,yB,yw,zI,yx,yv,zY,oc,oTs,oT,zQ,zQ.rowTs,yt,isL,E.BX,GZ,q0,q1,q2,q3,q4,vv,Option.map_some,if_true,List.length_append,List.length_cons,List.length_nil,zA]
     | false =>
      simp only[cond_false];apply zu;refine zx rfl func27 rfl (by kernel_rfl) ?_;unfold Tryz.f27;simp (maxSteps:=1000000) (disch:=(try simp only[LL]);omega) only[↓GO,↓DRW,GA,GX,ren,zj,za,refs,z7,cst,zm,isC,bin,una,z6,zd,blt,asArg,zg,zc,zf,z1,zn,unN,ze,zk,zb,GS,simprocAttr,zD,zE,yG,yA,yD,yC,yH,gh1,yz,yr,yu,zR,mkO,yn,yf,yg,mvC,unO,zX,yF,yB,yw,zI,yx,yv,zY,oc,oTs,oT,zQ,zQ.rowTs,yt,isL,E.BX,GZ,q0,q1,q2,q3,q4,zA]
theorem QJ (c:zw)(hb:c.y0≤4194304):zr (EV prog pol) 28 [.agg (c.enc.map .t)]=some (.t (.str (uO c))):=by
 obtain⟨kind,name,old,new⟩:=c;unfold zw.y0 at hb;unfold uO;simp only[zw.enc,List.map_cons,List.map_nil]at hb ⊢
 cases q0:(kind==0) with
 | true =>
  simp only[cond_true];apply zu;refine zx rfl func28 rfl (by kernel_rfl) ?_;unfold Tryz.f28;simp (maxSteps:=1000000) (disch:=(try simp only[LL]);omega) only[↓GO,↓DRW,GA,GX,ren,zj,za,refs,z7,cst,zm,isC,bin,una,z6,zd,blt,asArg,zg,zc,zf,z1,zn,unN,ze,zk,zb,GS,simprocAttr,zD,zE,yG,yA,yD,yC,yH,gh1,yz,yr,yu,zR,mkO,yn,yf,yg,mvC,unO,zX,yF,yB,yw,zI,yx,yv,zY,oc,oTs,oT,zQ,zQ.rowTs,yt,isL,E.BX,GZ,q0,vv,Option.map_some,if_true,List.length_append,List.length_cons,List.length_nil,zA]
 | false =>
  cases q1:(kind==1) with
  | true =>
   simp only[cond_true,cond_false];apply zu;refine zx rfl func28 rfl (by kernel_rfl) ?_;unfold Tryz.f28;simp (maxSteps:=1000000) (disch:=(try simp only[LL]);omega) only[↓GO,↓DRW,GA,GX,ren,zj,za,refs,z7,cst,zm,isC,bin,una,z6,zd,blt,asArg,zg,zc,zf,z1,zn,unN,ze,zk,zb,GS,simprocAttr,zD,zE,yG,yA,yD,yC,yH,gh1,yz,yr,yu,zR,mkO,yn,yf,yg,mvC,unO,zX,yF,yB,yw,zI,yx,yv,zY,oc,oTs,oT,zQ,zQ.rowTs,yt,isL,E.BX,GZ,q0,q1,vv,Option.map_some,if_true,List.length_append,List.length_cons,List.length_nil,zA]
  | false =>
   cases q2:(kind==2) with
   | true =>
    simp only[cond_true,cond_false];apply zu;refine zx rfl func28 rfl (by kernel_rfl) ?_;unfold Tryz.f28;simp (maxSteps:=1000000) (disch:=(try simp only[LL]);omega) only[↓GO,↓DRW,GA,GX,ren,zj,za,refs,z7,cst,zm,isC,bin,una,z6,zd,blt,asArg,zg,zc,zf,z1,zn,unN,ze,zk,zb,GS,simprocAttr,zD,zE,yG,yA,yD,yC,yH,gh1,yz,yr,yu,zR,mkO,yn,yf,yg,mvC,unO,zX,yF,yB,yw,zI,yx,yv,zY,oc,oTs,oT,zQ,zQ.rowTs,yt,isL,E.BX,GZ,q0,q1,q2,vv,Option.map_some,if_true,List.length_append,List.length_cons,List.length_nil,zA]
   | false =>
    cases q3:(kind==3) with
    | true =>
     simp only[cond_true,cond_false];apply zu;refine zx rfl func28 rfl (by kernel_rfl) ?_;unfold Tryz.f28;simp (maxSteps:=1000000) (disch:=(try simp only[LL]);omega) only[↓GO,↓DRW,GA,GX,ren,zj,za,refs,z7,cst,zm,isC,bin,una,z6,zd,blt,asArg,zg,zc,zf,z1,zn,unN,ze,zk,zb,GS,simprocAttr,zD,zE,yG,yA,yD,yC,yH,gh1,yz,yr,yu,zR,mkO,yn,yf,yg,mvC,unO,zX,yF,yB,yw,zI,yx,yv,zY,oc,oTs,oT,zQ,zQ.rowTs,yt,isL,E.BX,GZ,q0,q1,q2,q3,vv,Option.map_some,if_true,List.length_append,List.length_cons,List.length_nil,zA]
    | false =>
     cases q4:(kind==4) with
     | true =>
      simp only[cond_true,cond_false];apply zu;refine zx rfl func28 rfl (by kernel_rfl) ?_;unfold Tryz.f28;simp (maxSteps:=1000000) (disch:=(try simp only[LL]);omega) only[↓GO,↓DRW,GA,GX,ren,zj,za,refs,z7,cst,zm,isC,bin,una,z6,zd,blt,asArg,zg,zc,zf,z1,zn,unN,ze,zk,zb,GS,simprocAttr,zD,zE,yG,yA,yD,yC,yH,gh1,yz,yr,yu,zR,mkO,yn,yf,yg,mvC,unO,zX,yF,yB,yw,zI,yx,yv,zY,oc,oTs,oT,zQ,zQ.rowTs,yt,isL,E.BX,GZ,q0,q1,q2,q3,q4,vv,Option.map_some,if_true,List.length_append,List.length_cons,List.length_nil,zA]
     | false =>
      simp only[cond_false];apply zu;refine zx rfl func28 rfl (by kernel_rfl) ?_;unfold Tryz.f28;simp (maxSteps:=1000000) (disch:=(try simp only[LL]);omega) only[↓GO,↓DRW,GA,GX,ren,zj,za,refs,z7,cst,zm,isC,bin,una,z6,zd,blt,asArg,zg,zc,zf,z1,zn,unN,ze,zk,zb,GS,simprocAttr,zD,zE,yG,yA,yD,yC,yH,gh1,yz,yr,yu,zR,mkO,yn,yf,yg,mvC,unO,zX,yF,yB,yw,zI,yx,yv,zY,oc,oTs,oT,zQ,zQ.rowTs,yt,isL,E.BX,GZ,q0,q1,q2,q3,q4,zA]
theorem c_tuR (name o n:Str)(ho:isV o=true∧o.length≤1048700)(hn:isV n=true∧n.length≤1048700):zr (EV prog xK) 158 [.t (.str name),.t (.str o),.t (.str n)]=some (.agg ((cond (decide (xM o n<0)) (⟨2,name,o,n⟩:zw) ⟨3,name,o,n⟩).enc.map .t)):=by
 have d1:=mP (fk o ho.2);have d2:=mP (fk n hn.2);have d3:=mP (Zh (zJ o).1 (zJ n).1 (wu o ho.2).1 (wu n hn.2).1)
 change zr (EV prog xK) 124 _=some (.t (.int .i64 (xM o n))) at d3
 unfold rvT at d1 d2;generalize xM o n=ct at *;generalize (zJ o).1=v1 at *;generalize (zJ n).1=v2 at *;simp only[Ver.enc,List.map_cons,List.map_nil]at d1 d2 d3;clear ho hn
 cases q:decide (ct<0) with
 | true =>
  simp only[cond_true,zw.enc,List.map_cons,List.map_nil];apply zu;refine zx rfl func158 rfl (by kernel_rfl) ?_;unfold Tryz.f158;simp (disch:=(try simp only[LL]);omega) only[↓GO,↓yQ,GA,GX,ren,zj,za,refs,z7,cst,zm,isC,bin,una,z6,zd,blt,asArg,zg,zc,zf,z1,zn,unN,ze,zk,zb,GS2,simprocAttr,GZ,d1,d2,d3,q,zA]
 | false =>
  simp only[cond_false,zw.enc,List.map_cons,List.map_nil];apply zu;refine zx rfl func158 rfl (by kernel_rfl) ?_;unfold Tryz.f158;simp (disch:=(try simp only[LL]);omega) only[↓GO,↓yQ,GA,GX,ren,zj,za,refs,z7,cst,zm,isC,bin,una,z6,zd,blt,asArg,zg,zc,zf,z1,zn,unN,ze,zk,zb,GS2,simprocAttr,GZ,d1,d2,d3,q,zA]
theorem Rv (name:Str)(old new:List Str)(ho:eG old)(hn:eG new):∀ (d i:Nat) (acc:List zw) (m:Nat) (cap:Option Nat),i+d=max old.length new.length→m=acc.length→m+d≤16777216→∃ cap',
 EV prog xK (.loop 92 250 0 [.t (.str name),.sl 0 0 m cap,.t (.list 1 (strs old)),.t (.list 1 (strs new)),.t (.int .i64 (i:Int))] [.ts 4 (zw.zq acc)])
  = some (.loop (.exit 0) [.sl 0 0 (m+d) cap'] [.ts 4 (zw.zq (acc++(List.range' i d).map (u5 name old new)))])
 | 0,i,acc,m,cap,hi,hm,hmM=>by
  have c1:decide ((i:Int)<(old.length:Int))=false:=by apply decide_eq_false;omega
  have c2:decide ((i:Int)<(new.length:Int))=false:=by apply decide_eq_false;omega
  refine⟨cap,?_⟩;simp only[List.range'_zero,List.map_nil,List.append_nil,Nat.add_zero];refine zh func92 rfl rfl ?_;simp (disch:=(try simp only[LL]);omega) only[↓GO,↓yQ,GA,GX,ren,zj,za,refs,z7,cst,zm,isC,bin,una,z6,zd,blt,asArg,zg,zc,zf,z1,zn,unN,ze,zk,zb,GS2,simprocAttr,GZ,c1,c2,zo,zA]
 | d+1,i,acc,m,cap,hi,hm,hmM=>by
  have hMl:i≤1048576:=by have:=ho.1;have:=hn.1;omega
  have hsl:(zw.zq acc).length=m:=by rw[zw.zz,hm]
  obtain⟨cap',IH⟩:=Rv name old new ho hn d (i+1) (acc++[u5 name old new i]) (m+1) none (by omega) (by simp[hm]) (by omega);rw[show ((i+1:Nat):Int)=(i:Int)+1 by omega]at IH;rw[zw.tM]at IH;refine⟨cap',?_⟩;rw[bF,Rk,show m+(d+1)=m+1+d by omega];generalize (acc++[u5 name old new i])++(List.range' (i+1) d).map (u5 name old new)=Z at *;have hol:=zo old;have hnl:=zo new
  by_cases hnew:i<new.length
  · have hg2:(strs new)[i]? = some [.str new[i]]:=w8 new i hnew;have e2:new[i]? = some new[i]:=List.getElem?_eq_getElem hnew;have c1:decide ((i:Int)≥(new.length:Int))=false:=by rw[a6];simpa using hnew
    have l2:decide ((i:Int)<(new.length:Int))=true:=by apply decide_eq_true;omega
    have hv2:=hn.2 _ (List.getElem_mem hnew)
    by_cases hold:i<old.length
    · have hg1:(strs old)[i]? = some [.str old[i]]:=w8 old i hold;have e1:old[i]? = some old[i]:=List.getElem?_eq_getElem hold;have c2:decide ((i:Int)≥(old.length:Int))=false:=by rw[a6];simpa using hold
      have l1:decide ((i:Int)<(old.length:Int))=true:=by apply decide_eq_true;omega
      have hv1:=ho.2 _ (List.getElem_mem hold);have d1:=c_tuR name old[i] new[i] hv1 hv2;rw[show u5 name old new i=cond (decide (xM old[i] new[i]<0)) ⟨2,name,old[i],new[i]⟩ ⟨3,name,old[i],new[i]⟩ by unfold u5;rw[e1,e2]]at IH;generalize cond (decide (xM old[i] new[i]<0)) (⟨2,name,old[i],new[i]⟩:zw) ⟨3,name,old[i],new[i]⟩=ch at *;generalize old[i]=o at *;generalize new[i]=nw at *;clear ho hn hv1 hv2 e1 e2;obtain⟨k1,k2,k3,k4⟩:=ch;simp only[zw.enc,List.map_cons,List.map_nil]at d1 IH;refine zh func92 rfl rfl ?_;simp (disch:=(try simp only[LL]);omega) only[↓GO,↓yQ,GA,GX,ren,zj,za,refs,z7,cst,zm,isC,bin,una,z6,zd,blt,asArg,zg,zc,zf,z1,zn,unN,ze,zk,zb,GS2,simprocAttr,GZ,c1,c2,l1,hg1,hg2,hol,hnl,d1,zi,hsl,zA,IH,y6];refine zT (by kernel_rfl) ?_
      first|exact IH|simp (disch:=(try simp only[LL]);omega) only[↓GO,↓yQ,GA,GX,ren,zj,za,refs,z7,cst,zm,isC,bin,una,z6,zd,blt,asArg,zg,zc,zf,z1,zn,unN,ze,zk,zb,GS2,simprocAttr,GZ,IH,zi,zA]
    · have e1:old[i]? = none:=List.getElem?_eq_none (by omega);have c2:decide ((i:Int)≥(old.length:Int))=true:=by rw[a6];simpa using hold
      have l1:decide ((i:Int)<(old.length:Int))=false:=by apply decide_eq_false;omega
      rw[show u5 name old new i=⟨0,name,[],new[i]⟩ by unfold u5;rw[e1,e2]]at IH;simp only[zw.enc]at IH;generalize new[i]=nw at *;clear ho hn e1 e2;refine zh func92 rfl rfl ?_;simp (disch:=(try simp only[LL]);omega) only[↓GO,↓yQ,GA,GX,ren,zj,za,refs,z7,cst,zm,isC,bin,una,z6,zd,blt,asArg,zg,zc,zf,z1,zn,unN,ze,zk,zb,GS2,simprocAttr,GZ,c1,c2,l1,l2,hg2,hol,hnl,zi,hsl,zA,IH,y6]
  · have hold:i<old.length:=by omega
    have hg1:(strs old)[i]? = some [.str old[i]]:=w8 old i hold;have e1:old[i]? = some old[i]:=List.getElem?_eq_getElem hold;have e2:new[i]? = none:=List.getElem?_eq_none (by omega);have c1:decide ((i:Int)≥(new.length:Int))=true:=by rw[a6];simpa using hnew
    have l1:decide ((i:Int)<(old.length:Int))=true:=by apply decide_eq_true;omega
    rw[show u5 name old new i=⟨1,name,old[i],[]⟩ by unfold u5;rw[e1,e2]]at IH;simp only[zw.enc]at IH;generalize old[i]=o at *;clear ho hn e1 e2;refine zh func92 rfl rfl ?_;simp (disch:=(try simp only[LL]);omega) only[↓GO,↓yQ,GA,GX,ren,zj,za,refs,z7,cst,zm,isC,bin,una,z6,zd,blt,asArg,zg,zc,zf,z1,zn,unN,ze,zk,zb,GS2,simprocAttr,GZ,c1,l1,hg1,hol,hnl,zi,hsl,zA,IH,y6]
theorem c_ofR (a b:zy)(ha:GB a)(hb:GB b)(oa:zW a=true)(ob:zW b=true)(x:Str):zr (EV prog xK) 92 [.agg (a.enc.map .t),.agg (b.enc.map .t),.t (.str x)]=some (.t (.list 4 (zw.zq (xB a b x)))):=by
 have va:=tT ha x;have vb:=tT hb x;have d1:=RM a ha x;have d2:=RM b hb x;have d3:=mP (RR (zS a x) (zS b x) va.1 vb.1);have d4:=mP (RR (zS b x) (zS a x) vb.1 va.1);have hcl:=s8 oa ob x;have hcl':=hcl;unfold xB at hcl';rw[s7]at hcl';obtain⟨cap1,L⟩:=Rv x (woS (zS a x) (zS b x)) (woS (zS b x) (zS a x)) (nW va (zS b x)) (nW vb (zS a x)) _ 0 [] 0 (some 0) (Nat.zero_add _) rfl (by omega);rw[← kI,show gQ x (woS (zS a x) (zS b x)) (woS (zS b x) (zS a x))=xB a b x from rfl]at L;have hcn:max (woS (zS a x) (zS b x)).length (woS (zS b x) (zS a x)).length=(xB a b x).length:=by unfold xB;rw[s7]
 rw[hcn]at L;have ht:(zw.zq (xB a b x)).take (xB a b x).length=zw.zq (xB a b x):=by rw[← zw.zz (xB a b x)];simp
 simp only[Int.natCast_zero,List.nil_append,Nat.zero_add,show zw.zq []=[] from rfl]at L;clear ha hb oa ob va vb hcn hcl hcl';generalize xB a b x=CG at *;generalize woS (zS a x) (zS b x)=old at *;generalize woS (zS b x) (zS a x)=new at *;generalize zS a x=VA at *;generalize zS b x=VB at *;obtain⟨ta,pa⟩:=a;obtain⟨tb,pb⟩:=b;simp only[zy.enc,List.map_cons,List.map_nil]at d1 d2 ⊢;apply zu;refine zx rfl func92 rfl (by kernel_rfl) ?_;unfold Tryz.f92;simp (disch:=(try simp only[LL]);omega) only[↓GO,↓yQ,GA,GX,ren,zj,za,refs,z7,cst,zm,isC,bin,una,z6,zd,blt,asArg,zg,zc,zf,z1,zn,unN,ze,zk,zb,GS2,simprocAttr,GZ,d1,d2,d3,d4,L,ht,zA]
theorem Uv (a b:zy)(ha:GB a)(hb:GB b)(oa:zW a=true)(ob:zW b=true)(ns:List Str)(hl:ns.length≤80):∀ (rest pre:List Str) (acc:List zw) (m:Nat) (cap:Option Nat),ns=pre++rest→m=acc.length→m+40*rest.length≤1048576→∃ cap',
 EV prog xK (.loop 25 250 0 [.ptr 0 0 0,.ptr 1 0 0,.sl 2 0 m cap,.t (.list 1 (strs ns)),.t (.int .i64 (pre.length:Int))] [.vs 2 [a.enc.map .t],.vs 2 [b.enc.map .t],.ts 4 (zw.zq acc)])
  = some (.loop (.exit 0) [.ptr 0 0 0,.ptr 1 0 0,.sl 2 0 (acc++rest.flatMap (xB a b)).length cap'] [.vs 2 [a.enc.map .t],.vs 2 [b.enc.map .t],.ts 4 (zw.zq (acc++rest.flatMap (xB a b)))])
 | [],pre,acc,m,cap,h,hm,hmM=>by
  have c:decide ((pre.length:Int)<(ns.length:Int))=false:=by simp[h]
  refine⟨cap,?_⟩;rw[List.flatMap_nil,List.append_nil,← hm];clear ha hb oa ob;obtain⟨ta,pa⟩:=a;obtain⟨tb,pb⟩:=b;simp only[zy.enc,List.map_cons,List.map_nil];refine zh func25 rfl rfl ?_;simp (disch:=(try simp only[LL]);omega) only[↓GO,↓yQ,GA,GX,ren,zj,za,refs,z7,cst,zm,isC,bin,una,z6,zd,blt,asArg,zg,zc,zf,z1,zn,unN,ze,zk,zb,GS2,simprocAttr,GZ,c,zo,zA]
 | x::rest,pre,acc,m,cap,h,hm,hmM=>by
  have c:decide ((pre.length:Int)<(ns.length:Int))=true:=by simp[h];omega
  have hget:(strs ns)[pre.length]? = some [.str x]:=x9 (by rw[h];simp);have hlen:pre.length+rest.length+1≤ns.length:=by rw[h];simp;omega
  have hsl:(zw.zq acc).length=m:=by rw[zw.zz,hm]
  simp only[List.length_cons]at hmM;have d1:=c_ofR a b ha hb oa ob x;have hcl:=s8 oa ob x;have hcgl:=zw.zz (xB a b x);obtain⟨cap',IH⟩:=Uv a b ha hb oa ob ns hl rest (pre++[x]) (acc++xB a b x) (m+(xB a b x).length) none (by rw[h];simp) (by simp[hm]) (by omega);rw[show ((pre++[x]).length:Int)=(pre.length:Int)+1 by simp,show zw.zq (acc++xB a b x)=zw.zq acc++zw.zq (xB a b x) by simp[zw.zq]]at IH;refine⟨cap',?_⟩;rw[List.flatMap_cons,← List.append_assoc];clear h ha hb oa ob;generalize (acc++xB a b x)++rest.flatMap (xB a b)=Z at *;generalize hcg:(xB a b x).length=cg at *;generalize xB a b x=CG at *;obtain⟨ta,pa⟩:=a;obtain⟨tb,pb⟩:=b;simp only[zy.enc,List.map_cons,List.map_nil]at d1 IH ⊢;refine zh func25 rfl rfl ?_;simp (disch:=(try simp only[LL]);omega) only[↓GO,↓yQ,GA,GX,ren,zj,za,refs,z7,cst,zm,isC,bin,una,z6,zd,blt,asArg,zg,zc,zf,z1,zn,unN,ze,zk,zb,GS2,simprocAttr,GZ,c,hget,d1,zo,hcgl,hsl,zi,zA,IH,y6];refine zT (by kernel_rfl) ?_
  first|exact IH|simp (disch:=(try simp only[LL]);omega) only[↓GO,↓yQ,GA,GX,ren,zj,za,refs,z7,cst,zm,isC,bin,una,z6,zd,blt,asArg,zg,zc,zf,z1,zn,unN,ze,zk,zb,GS2,simprocAttr,GZ,IH,zi,zA]
theorem eu (a b:zy)(ha:GB a)(hb:GB b):∀ (rest pre:List z8) (acc:List zw) (m:Nat) (cap:Option Nat),a.packs=pre++rest→m=acc.length→m+rest.length≤2097152→∃ cap',
 EV prog xK (.loop 25 506 0 [.ptr 0 0 0,.ptr 1 0 0,.sl 2 0 m cap,.t (.int .i64 (pre.length:Int))] [.vs 2 [a.enc.map .t],.vs 2 [b.enc.map .t],.ts 4 (zw.zq acc)])
  = some (.loop (.exit 2) [.sl 0 0 (acc++rest.flatMap (vj b)).length cap'] [.ts 4 (zw.zq (acc++rest.flatMap (vj b)))])
 | [],pre,acc,m,cap,h,hm,hmM=>by
  have c:decide ((pre.length:Int)<(a.packs.length:Int))=false:=by simp[h]
  refine⟨cap,?_⟩;rw[List.flatMap_nil,List.append_nil,← hm];clear ha hb;obtain⟨ta,pa⟩:=a;obtain⟨tb,pb⟩:=b;simp only[zy.enc,List.map_cons,List.map_nil]at c ⊢;refine zh func25 rfl rfl ?_;simp (disch:=(try simp only[LL]);omega) only[↓GO,↓yQ,GA,GX,ren,zj,za,refs,z7,cst,zm,isC,bin,una,z6,zd,blt,asArg,zg,zc,zf,z1,zn,unN,ze,zk,zb,GS2,simprocAttr,GZ,c,z8.zz,zA]
 | p :: rest, pre, acc, m, cap, h, hm, hmM => by
  have c:decide ((pre.length:Int)<(a.packs.length:Int))=true:=by simp[h];omega
  have hget:(z8.zq a.packs)[pre.length]? = some p.enc:=by rw[h];simp[z8.zq]
  have hlen:pre.length+rest.length+1≤a.packs.length:=by rw[h];simp;omega
  have hal:=ha.len.1;have hpb:=ha.len.2.2 p (by rw[h];simp);have hsl:(zw.zq acc).length=m:=by rw[zw.zz,hm]
  simp only[List.length_cons]at hmM;have d1:=mP (uQ p (by omega));have d2:=mP (fY b (keyOf p) hb);rw[List.flatMap_cons,← List.append_assoc]
  cases hf:sf b.packs (keyOf p) with
  | none =>
   rw[bf hf]at d2;simp only[ixI]at d2;have c2:decide ((-1:Int)≥0)=false:=rfl;rw[show vj b p=[] by unfold vj;rw[hf],List.append_nil];obtain⟨cap',IH⟩:=eu a b ha hb rest (pre++[p]) acc m cap (by rw[h];simp) hm (by omega);rw[show ((pre++[p]).length:Int)=(pre.length:Int)+1 by simp]at IH;refine⟨cap',?_⟩;clear h ha hb hf;generalize acc++rest.flatMap (vj b)=Z at *;generalize keyOf p=kp at *;obtain⟨ta,pa⟩:=a;obtain⟨tb,pb⟩:=b;obtain⟨pn,version,source,sums,dev,zB⟩:=p;simp only[zy.enc,z8.enc,List.map_cons,List.map_nil]at c hget hlen hal d1 d2 IH ⊢;refine zh func25 rfl rfl ?_;simp (disch:=(try simp only[LL]);omega) only[↓GO,↓yQ,GA,GX,ren,zj,za,refs,z7,cst,zm,isC,bin,una,z6,zd,blt,asArg,zg,zc,zf,z1,zn,unN,ze,zk,zb,GS2,simprocAttr,GZ,c,hget,z8.zz,d1,d2,c2,zi,zA,IH]
  | some q =>
   obtain⟨hq,hkq,i,hi,hpi⟩:=oy hf;rw[hi]at d2;simp only[ixI]at d2;have c2:decide ((i:Int)≥0)=true:=by simp
   have hgq:(z8.zq b.packs)[i]? = some q.enc:=by unfold z8.zq;rw[List.getElem?_map,hpi];rfl
   have d3:=mP (c_spR p q hpb)
   cases hs:wg p q with
   | true =>
    rw[hs]at d3;rw[show vj b p=[] by unfold vj;rw[hf];simp only[hs,cond_true],List.append_nil];obtain⟨cap',IH⟩:=eu a b ha hb rest (pre++[p]) acc m cap (by rw[h];simp) hm (by omega);rw[show ((pre++[p]).length:Int)=(pre.length:Int)+1 by simp]at IH;refine⟨cap',?_⟩;clear h ha hb hf hq hkq hi hpi hs;generalize acc++rest.flatMap (vj b)=Z at *;generalize keyOf p=kp at *;obtain⟨ta,pa⟩:=a;obtain⟨tb,pb⟩:=b;obtain⟨pn,version,source,sums,dev,zB⟩:=p;obtain⟨pn',version',source',sums',dev',needs'⟩:=q;simp only[zy.enc,z8.enc,List.map_cons,List.map_nil]at c hget hgq hlen hal d1 d2 d3 IH ⊢;refine zh func25 rfl rfl ?_;simp (disch:=(try simp only[LL]);omega) only[↓GO,↓yQ,GA,GX,ren,zj,za,refs,z7,cst,zm,isC,bin,una,z6,zd,blt,asArg,zg,zc,zf,z1,zn,unN,ze,zk,zb,GS2,simprocAttr,GZ,c,hget,z8.zz,d1,d2,c2,hgq,d3,Bool.not_true,zi,zA,IH]
   | false =>
    rw[hs]at d3;rw[show vj b p=[⟨4,p.name,p.version,p.version⟩] by unfold vj;rw[hf];simp only[hs,cond_false]];obtain⟨cap',IH⟩:=eu a b ha hb rest (pre++[p]) (acc++[⟨4,p.name,p.version,p.version⟩]) (m+1) none (by rw[h];simp) (by simp[hm]) (by omega);rw[show ((pre++[p]).length:Int)=(pre.length:Int)+1 by simp]at IH;rw[zw.tM]at IH;refine⟨cap',?_⟩;clear h ha hb hf hq hkq hi hpi hs;generalize acc++[⟨4,p.name,p.version,p.version⟩]++rest.flatMap (vj b)=Z at *;generalize keyOf p=kp at *;obtain⟨ta,pa⟩:=a;obtain⟨tb,pb⟩:=b;obtain⟨pn,version,source,sums,dev,zB⟩:=p;obtain⟨pn',version',source',sums',dev',needs'⟩:=q;simp only[zy.enc,z8.enc,zw.enc,List.map_cons,List.map_nil]at c hget hgq hlen hal d1 d2 d3 IH ⊢;refine zh func25 rfl rfl ?_;simp (disch:=(try simp only[LL]);omega) only[↓GO,↓yQ,GA,GX,ren,zj,za,refs,z7,cst,zm,isC,bin,una,z6,zd,blt,asArg,zg,zc,zf,z1,zn,unN,ze,zk,zb,GS2,simprocAttr,GZ,c,hget,z8.zz,d1,d2,c2,hgq,d3,Bool.not_false,zi,hsl,zA,IH,y6]
theorem c_chR (a b:zy)(ha:GB a)(hb:GB b):zr (EV prog xK) 25 [.agg (a.enc.map .t),.agg (b.enc.map .t)]=some (.t (.list 4 (zw.zq (xF a b)))):=by
 have e1:=mP (ez a ha);have e2:=mP (ez b hb);unfold xF
 cases oa:zW a with
 | false =>
  rw[oa]at e1;clear e2 ha hb oa;rw[Bool.false_and,cond_false];obtain⟨ta,pa⟩:=a;obtain⟨tb,pb⟩:=b;simp only[zy.enc,List.map_cons,List.map_nil,show zw.zq []=[] from rfl]at e1 ⊢;apply zu;refine zx rfl func25 rfl (by kernel_rfl) ?_;unfold Tryz.f25;simp (disch:=(try simp only[LL]);omega) only[↓GO,↓yQ,GA,GX,ren,zj,za,refs,z7,cst,zm,isC,bin,una,z6,zd,blt,asArg,zg,zc,zf,z1,zn,unN,ze,zk,zb,GS2,simprocAttr,GZ,e1,Bool.not_false,zA,List.take_nil]
 | true =>
  rw[oa]at e1
  cases ob:zW b with
  | false =>
   rw[ob]at e2;clear ha hb oa ob;rw[Bool.and_false,cond_false];obtain⟨ta,pa⟩:=a;obtain⟨tb,pb⟩:=b;simp only[zy.enc,List.map_cons,List.map_nil,show zw.zq []=[] from rfl]at e1 e2 ⊢;apply zu;refine zx rfl func25 rfl (by kernel_rfl) ?_;unfold Tryz.f25;simp (disch:=(try simp only[LL]);omega) only[↓GO,↓yQ,GA,GX,ren,zj,za,refs,z7,cst,zm,isC,bin,una,z6,zd,blt,asArg,zg,zc,zf,z1,zn,unN,ze,zk,zb,GS2,simprocAttr,GZ,e1,e2,Bool.not_false,Bool.not_true,zA,List.take_nil]
  | true =>
   rw[ob]at e2;rw[Bool.and_self,cond_true];have d1:=mP (c_nmR a b ha hb);have h1:=pe a b;have h2:=mX oa;have h3:=mX ob;obtain⟨cap1,L1⟩:=Uv a b ha hb oa ob (yR a b) (by omega) (yR a b) [] [] 0 (some 0) rfl rfl (by omega);have h4:=tL (xB a b) 40 (s8 oa ob) (yR a b);obtain⟨cap2,L2⟩:=eu a b ha hb a.packs [] ((yR a b).flatMap (xB a b)) _ cap1 rfl rfl (by omega);rw[show (yR a b).flatMap (xB a b)++a.packs.flatMap (vj b)=yE a b from rfl]at L2;simp only[List.length_nil,Int.natCast_zero,List.nil_append,show zw.zq []=[] from rfl]at L1 L2;have ht:(zw.zq (yE a b)).take (yE a b).length=zw.zq (yE a b):=by rw[← zw.zz (yE a b)];simp
   clear ha hb oa ob;generalize yE a b=Z at *;generalize (yR a b).flatMap (xB a b)=Y at *;generalize yR a b=ns at *;obtain⟨ta,pa⟩:=a;obtain⟨tb,pb⟩:=b;simp only[zy.enc,List.map_cons,List.map_nil]at e1 e2 d1 L1 L2 ⊢;apply zu;refine zx rfl func25 rfl (by kernel_rfl) ?_;unfold Tryz.f25;simp (disch:=(try simp only[LL]);omega) only[↓GO,↓yQ,GA,GX,ren,zj,za,refs,z7,cst,zm,isC,bin,una,z6,zd,blt,asArg,zg,zc,zf,z1,zn,unN,ze,zk,zb,GS2,simprocAttr,GZ,e1,e2,d1,L1,L2,ht,Bool.not_true,zA]
theorem W6 {name:Str}{old new:List Str}(hn:name.length≤1048576)(ho:eG old)(hw:eG new)(i:Nat):(u5 name old new i).y0≤4194304:=by
 have h1:∀ o,old[i]? = some o→o.length≤1048700:=fun o h=>(ho.2 o (List.mem_of_getElem? h)).2
 have h2:∀ o,new[i]? = some o→o.length≤1048700:=fun o h=>(hw.2 o (List.mem_of_getElem? h)).2
 unfold u5
 split
 · rename_i o n e1 e2;have:=h1 o e1;have:=h2 n e2
   cases decide (xM o n<0)<;>simp only[cond_true,cond_false,zw.y0]<;>omega
 · rename_i o e1 e2;have:=h1 o e1;simp only[zw.y0,List.length_nil];omega
 · rename_i n e1 e2;have:=h2 n e2;simp only[zw.y0,List.length_nil];omega
 · simp only[zw.y0,List.length_nil];omega
theorem jP {a b:zy}(ha:GB a)(hb:GB b):∀ c∈xF a b,c.y0≤4194304:=by
 intro c hc;unfold xF at hc
 cases ho:(zW a&&zW b) with
 | false=>rw[ho]at hc;simp at hc
 | true =>
  rw[ho,cond_true]at hc;unfold yE at hc;rcases List.mem_append.1 hc with h|h
  · obtain⟨n,hn,h⟩:=List.mem_flatMap.1 h;unfold yR at hn;rw[lI]at hn;obtain⟨p,hp,rfl⟩:=List.mem_map.1 hn;have hpb:p.y0≤1048576:=by
     rcases List.mem_append.1 hp with hp|hp
     · exact ha.len.2.2 p hp
     · exact hb.len.2.2 p hp
    simp only[z8.y0]at hpb;unfold xB gQ at h;obtain⟨i,_,rfl⟩:=List.mem_map.1 h;exact W6 (by omega) (nW (tT ha _) _) (nW (tT hb _) _) i
  · obtain⟨p,hp,h⟩:=List.mem_flatMap.1 h;have hpb:=ha.len.2.2 p hp;simp only[z8.y0]at hpb;unfold vj at h
    split at h
    · rename_i q _
      cases hs:wg p q with
      | true=>rw[hs]at h;simp at h
      | false =>
       rw[hs,cond_false]at h;simp only[List.mem_singleton]at h;subst h;simp only[zw.y0];omega
    · simp at h
theorem RU (a b:zy)(ha:GB a)(hb:GB b):zr (EV prog xK) 24 [.agg (a.enc.map .t),.agg (b.enc.map .t)]=some (.t (.list 4 (zw.zq (xF a b)))):=by
 unfold xF
 cases ho:(zW a&&zW b) with
 | false=>exact Wa a b ha hb ho
 | true =>
  rw[Bool.and_eq_true]at ho;exact QK a b ha hb ho.1 ho.2
structure Rnd (a b:zy) (c:zw):Prop where
 txt:(uO c==[])=false
 f1:(c.old==[])=false→decide (ixI (vd a.packs ((c.name++[64])++c.old))<0)=false
 f2:(c.new==[])=false→decide (ixI (vd b.packs ((c.name++[64])++c.new))<0)=false
 f3:(c.kind==4)=false→(c.old==[])=false→decide (ixI (vd b.packs ((c.name++[64])++c.old))≥0)=false
 f4:(c.kind==4)=false→(c.new==[])=false→decide (ixI (vd a.packs ((c.name++[64])++c.new))≥0)=false
theorem ba {x:Int}{q:Bool}(h:decide (x<0) = !q):decide (x≥0)=q:=by
 cases q with
 | true=>have:=of_decide_eq_false h;exact decide_eq_true (by omega)
 | false=>have:=of_decide_eq_true h;exact decide_eq_false (by omega)
theorem Q9 {a b:zy}{c:zw}(h:P0 a b c):Rnd a b c:=by
 have ne:∀ s:Str,(s==[])=false→s≠[]:=fun s hs e=>by rw[e]at hs;cases hs
 have nk:(c.kind==4)=false→c.kind≠4:=fun hs e=>by rw[e]at hs;cases hs
 refine⟨W7 h.kind,fun q=>?_,fun q=>?_,fun k q=>?_,fun k q=>?_⟩
 · rw[ew,h.old (ne _ q)];rfl
 · rw[ew,h.new (ne _ q)];rfl
 · exact ba (by rw[ew,h.oldN (nk k) (ne _ q)])
 · exact ba (by rw[ew,h.newN (nk k) (ne _ q)])
theorem ce_at {l:List zw}{i:Nat}{c:zw}(h:l[i]? = some c):(zw.zq l)[i]? = some [.int .i64 c.kind,.str c.name,.str c.old,.str c.new]:=by simp[zw.zq,zw.enc,h]
theorem fM (a b:zy)(ha:GB a)(hb:GB b)(X:List zw)(hX:X.length≤4096)(hxb:∀ c∈X,c.y0≤4194304)(hs:∀ c∈X,Rnd a b c):∀ (rest pre:List zw),X=pre++rest →
 EV prog xK (.loop 4 2042 0 [.ptr 0 0 0,.ptr 1 0 0,.t (.list 4 (zw.zq X)),.t (.list 4 (zw.zq X)),.t (.int .i64 (pre.length:Int))] [.vs 2 [a.enc.map .t],.vs 2 [b.enc.map .t]])
  = some (.loop (.exit 0) [.bad,.ptr 0 0 0,.ptr 1 0 0,.t (.list 4 (zw.zq X))] [.vs 2 [a.enc.map .t],.vs 2 [b.enc.map .t]])
 | [],pre,h=>by
  have c:decide ((pre.length:Int)<(X.length:Int))=false:=by simp[h]
  have hel:=zw.zz X;simp only[zy.enc,List.map_cons,List.map_nil];generalize zw.zq X=E0 at *;refine zh func4 rfl rfl ?_;simp (maxSteps:=1000000) (disch:=(try simp only[LL]);omega) only[↓GO,↓yQ,GA,GX,ren,zj,za,refs,z7,cst,zm,isC,bin,una,z6,zd,blt,asArg,zg,zc,zf,z1,zn,unN,ze,zk,zb,GS2,simprocAttr,zD,zE,yG,yA,yD,yC,yH,gh1,yz,yr,yu,zR,mkO,yn,yf,yg,mvC,unO,zX,yF,yB,yw,zI,yx,yv,zY,oc,oTs,oT,zQ,zQ.rowTs,yt,isL,E.BX,GZ,c,hel,zA]
 | x :: rest, pre, h => by
  have c0:decide ((pre.length:Int)<(X.length:Int))=true:=by simp[h];omega
  have hx:X[pre.length]? = some x:=by rw[h];simp
  have hget:=ce_at hx;have hlen:pre.length+rest.length+1≤X.length:=by rw[h];simp;omega
  have hxb1:=hxb x (List.mem_of_getElem? hx);have d1:=mP (UK x hxb1);obtain⟨t1,f1,f2,f3,f4⟩:=hs x (List.mem_of_getElem? hx);have IH:=fM a b ha hb X hX hxb hs rest (pre++[x]) (by rw[h];simp);rw[show ((pre++[x]).length:Int)=(pre.length:Int)+1 by simp]at IH;have hel:=zw.zz X;have e1:=mP (qg a ((x.name++[64])++x.old) ha);have e2:=mP (qg b ((x.name++[64])++x.new) hb);have e3:=mP (qg b ((x.name++[64])++x.old) hb);have e4:=mP (qg a ((x.name++[64])++x.new) ha);clear h hx hs hxb ha hb;generalize ixI (vd a.packs ((x.name++[64])++x.old))=y1 at *;generalize ixI (vd b.packs ((x.name++[64])++x.new))=y2 at *;generalize ixI (vd b.packs ((x.name++[64])++x.old))=y3 at *;generalize ixI (vd a.packs ((x.name++[64])++x.new))=y4 at *;generalize uO x=tx at *;obtain⟨kind,name,old,new⟩:=x;obtain⟨ta,pa⟩:=a;obtain⟨tb,pb⟩:=b;unfold zw.y0 at hxb1;simp only[zy.enc,zw.enc,List.map_cons,List.map_nil]at d1 e1 e2 e3 e4 IH hget t1 f1 f2 f3 f4 hxb1 ⊢;generalize zw.zq X=E0 at *
  cases q1:(old==[])<;>cases q2:(new==[])<;>cases q3:(kind==4)
  all_goals (
   simp only[q1,q2,q3,forall_const,reduceCtorEq,false_implies,true_implies]at f1 f2 f3 f4;refine zh func4 rfl rfl ?_;simp (maxSteps:=1000000) (disch:=(try simp only[LL]);omega) only[↓GO,↓yQ,GA,GX,ren,zj,za,refs,z7,cst,zm,isC,bin,una,z6,zd,blt,asArg,zg,zc,zf,z1,zn,unN,ze,zk,zb,GS2,simprocAttr,zD,zE,yG,yA,yD,yC,yH,gh1,yz,yr,yu,zR,mkO,yn,yf,yg,mvC,unO,zX,yF,yB,yw,zI,yx,yv,zY,oc,oTs,oT,zQ,zQ.rowTs,yt,isL,E.BX,GZ,c0,hel,hget,d1,t1,e1,e2,e3,e4,f1,f2,f3,f4,q1,q2,q3,bne,Bool.not_true,Bool.not_false,beq_self_eq_true,vv,Option.map_some,if_true,eq_self,Bool.and_self,List.length_append,List.length_cons,List.length_nil,zi,zA,IH])
theorem cM (a b:zy)(t:T)(i:Nat)(hi:i≤1048576):EV prog xK (.loop 4 16378 0 [.ptr 0 0 0,.ptr 1 0 0,.t t,.t (.bool false),.t (.int .i64 (i:Int))] [.vs 2 [a.enc.map .t],.vs 2 [b.enc.map .t]])
 = some (.loop (.exit 2) [.t t,.t (.bool false)] []):=by
 have hel:=z8.zz a.packs;obtain⟨ta,pa⟩:=a;obtain⟨tb,pb⟩:=b;simp only[zy.enc,List.map_cons,List.map_nil]at hel ⊢;generalize z8.zq pa=E0 at *
 cases c:decide ((i:Int)<(pa.length:Int)) with
 | true =>
  refine zh func4 rfl rfl ?_;simp (maxSteps:=1000000) (disch:=(try simp only[LL]);omega) only[↓GO,↓yQ,GA,GX,ren,zj,za,refs,z7,cst,zm,isC,bin,una,z6,zd,blt,asArg,zg,zc,zf,z1,zn,unN,ze,zk,zb,GS2,simprocAttr,zD,zE,yG,yA,yD,yC,yH,gh1,yz,yr,yu,zR,mkO,yn,yf,yg,mvC,unO,zX,yF,yB,yw,zI,yx,yv,zY,oc,oTs,oT,zQ,zQ.rowTs,yt,isL,E.BX,GZ,c,hel,zA]
 | false =>
  refine zh func4 rfl rfl ?_;simp (maxSteps:=1000000) (disch:=(try simp only[LL]);omega) only[↓GO,↓yQ,GA,GX,ren,zj,za,refs,z7,cst,zm,isC,bin,una,z6,zd,blt,asArg,zg,zc,zf,z1,zn,unN,ze,zk,zb,GS2,simprocAttr,zD,zE,yG,yA,yD,yC,yH,gh1,yz,yr,yu,zR,mkO,yn,yf,yg,mvC,unO,zX,yF,yB,yw,zI,yx,yv,zY,oc,oTs,oT,zQ,zQ.rowTs,yt,isL,E.BX,GZ,c,hel,zA]
theorem Yb (a b:zy)(ha:GB a)(t:T):∀ (ra rb pa pb:List z8),a.packs=pa++ra→b.packs=pb++rb→pa.length=pb.length→ra.length=rb.length →
 EV prog xK (.loop 4 16378 0 [.ptr 0 0 0,.ptr 1 0 0,.t t,.t (.bool true),.t (.int .i64 (pa.length:Int))] [.vs 2 [a.enc.map .t],.vs 2 [b.enc.map .t]])
  = some (.loop (.exit 2) [.t t,.t (.bool (wC ra rb))] [])
 | [],[],pa,pb,h1,h2,hp,hr=>by
  have c:decide ((pa.length:Int)<(a.packs.length:Int))=false:=by simp[h1]
  have hel:=z8.zz a.packs;rw[wC];obtain⟨ta,qa⟩:=a;obtain⟨tb,qb⟩:=b;simp only[zy.enc,List.map_cons,List.map_nil]at c hel ⊢;clear ha h1 h2;generalize z8.zq qa=E0 at *;refine zh func4 rfl rfl ?_;simp (maxSteps:=1000000) (disch:=(try simp only[LL]);omega) only[↓GO,↓yQ,GA,GX,ren,zj,za,refs,z7,cst,zm,isC,bin,una,z6,zd,blt,asArg,zg,zc,zf,z1,zn,unN,ze,zk,zb,GS2,simprocAttr,zD,zE,yG,yA,yD,yC,yH,gh1,yz,yr,yu,zR,mkO,yn,yf,yg,mvC,unO,zX,yF,yB,yw,zI,yx,yv,zY,oc,oTs,oT,zQ,zQ.rowTs,yt,isL,E.BX,GZ,c,hel,zA]
 | [],_::_,pa,pb,h1,h2,hp,hr=>by simp at hr
 | _::_,[],pa,pb,h1,h2,hp,hr=>by simp at hr
 | x :: ra, y :: rb, pa, pb, h1, h2, hp, hr => by
  obtain⟨b1,b2,b3⟩:=ha.len;have c:decide ((pa.length:Int)<(a.packs.length:Int))=true:=by simp[h1];omega
  have hg1:(z8.zq a.packs)[pa.length]? = some x.enc:=by rw[h1];exact sD z8.enc pa x ra
  have hg2:(z8.zq b.packs)[pa.length]? = some y.enc:=by rw[h2,hp];exact sD z8.enc pb y rb
  have hlen:pa.length+ra.length+1≤a.packs.length:=by rw[h1];simp;omega
  have hk:=mP (c_spJ x y (b3 x (by rw[h1];simp)));have IH:=Yb a b ha t ra rb (pa++[x]) (pb++[y]) (by rw[h1];simp) (by rw[h2];simp) (by simp[hp]) (by simpa using hr);rw[show ((pa++[x]).length:Int)=(pa.length:Int)+1 by simp]at IH;have IF:=cM a b t (pa.length+1) (by omega);rw[show ((pa.length+1:Nat):Int)=(pa.length:Int)+1 by omega]at IF;have hel:=z8.zz a.packs;have hel2:=z8.zz b.packs;have c2:decide ((pa.length:Int)<(b.packs.length:Int))=true:=by simp[h2];omega
  have hla:a.packs.length=b.packs.length:=by rw[h1,h2];simp at hr ⊢;omega
  rw[wC];clear h1 h2 ha b3;obtain⟨ta,qa⟩:=a;obtain⟨tb,qb⟩:=b;simp only[zy.enc,z8.enc,List.map_cons,List.map_nil]at c c2 hg1 hg2 hk hel hel2 hlen b1 hla IH IF ⊢;generalize z8.zq qa=E0 at *;generalize z8.zq qb=E1 at *
  cases q:wg x y with
  | true =>
   rw[q]at hk;rw[Bool.true_and];refine zh func4 rfl rfl ?_;simp (maxSteps:=1000000) (disch:=(try simp only[LL]);omega) only[↓GO,↓yQ,GA,GX,ren,zj,za,refs,z7,cst,zm,isC,bin,una,z6,zd,blt,asArg,zg,zc,zf,z1,zn,unN,ze,zk,zb,GS2,simprocAttr,zD,zE,yG,yA,yD,yC,yH,gh1,yz,yr,yu,zR,mkO,yn,yf,yg,mvC,unO,zX,yF,yB,yw,zI,yx,yv,zY,oc,oTs,oT,zQ,zQ.rowTs,yt,isL,E.BX,GZ,c,c2,hel,hel2,hg1,hg2,hk,zi,zA,IH]
  | false =>
   rw[q]at hk;rw[Bool.false_and];refine zh func4 rfl rfl ?_;simp (maxSteps:=1000000) (disch:=(try simp only[LL]);omega) only[↓GO,↓yQ,GA,GX,ren,zj,za,refs,z7,cst,zm,isC,bin,una,z6,zd,blt,asArg,zg,zc,zf,z1,zn,unN,ze,zk,zb,GS2,simprocAttr,zD,zE,yG,yA,yD,yC,yH,gh1,yz,yr,yu,zR,mkO,yn,yf,yg,mvC,unO,zX,yF,yB,yw,zI,yx,yv,zY,oc,oTs,oT,zQ,zQ.rowTs,yt,isL,E.BX,GZ,c,c2,hel,hel2,hg1,hg2,hk,zi,zA,IF]
theorem aJ (code:List Int)(hb:okB code):zr (EV prog xK) 4 [.t (.list 1 (xl code))]=some (.t (.bool true)):=by
 obtain⟨g,h,hg,hBh,d2⟩:=Vq code hb;obtain⟨t,ht,d3⟩:=Vr code hb;have d2:=mP d2;have d3:=mP d3;have d1:=mP (RW code);have hlen:=hb.1;rw[show decide ((code.length:Int) > 1048576)=false by apply decide_eq_false;omega]at d1;have hBg:GB g:=by have:=hg.2;unfold GB;omega
 have a1:=RU g h hBg hBh;have a2:=c_chR g h hBg hBh;have a3:=RU g g hBg hBg;rw[jO]at a3;have t1:=mP (UK t (by omega));have t2:=mP (QJ t (by omega));have o1:=mP (ez g hBg);have o2:=mP (ez h hBh);have hXb:=jP hBg hBh;have fin:∀ X:List zw,X=xF g h→zr (EV prog xK) 4 [.t (.list 1 (xl code))]=some (.t (.bool true)):=fun X hX=>by
  rw[← hX]at a1 a2 hXb
  cases ho:(zW g&&zW h) with
  | false =>
   have hXn:X=[]:=by rw[hX];unfold xF;rw[ho];rfl
   subst hXn;have L:=fM g h hBg hBh [] (by simp) (fun c hc=>by simp at hc) (fun c hc=>by simp at hc) [] [] rfl;simp only[List.length_nil,Int.natCast_zero,show zw.zq []=[] from rfl]at L a1 a2 a3;clear hBg hBh hg hb hXb hX hlen ht;obtain⟨top,ps⟩:=g;obtain⟨top',ps'⟩:=h;obtain⟨kind,name,old,new⟩:=t;generalize uO ⟨kind,name,old,new⟩=ct at *;simp only[zy.enc,zw.enc,List.map_cons,List.map_nil]at d2 d3 a1 a2 a3 t1 t2 o1 o2 L ⊢
   cases og:zW ⟨top,ps⟩ with
   | false =>
    rw[og]at o1;clear o2 ho og;apply zu;refine zx rfl func4 rfl (by kernel_rfl) ?_;unfold Tryz.f4;simp (maxSteps:=1000000) (disch:=(try simp only[LL]);omega) only[↓GO,↓yQ,GA,GX,ren,zj,za,refs,z7,cst,zm,isC,bin,una,z6,zd,blt,asArg,zg,zc,zf,z1,zn,unN,ze,zk,zb,GS2,simprocAttr,zD,zE,yG,yA,yD,yC,yH,gh1,yz,yr,yu,zR,mkO,yn,yf,yg,mvC,unO,zX,yF,yB,yw,zI,yx,yv,zY,oc,oTs,oT,zQ,zQ.rowTs,yt,isL,E.BX,GZ,d1,d2,d3,a1,a2,a3,t1,t2,o1,L,bne,Bool.not_true,Bool.not_false,beq_self_eq_true,List.length_nil,zA]
   | true =>
    rw[og,Bool.true_and]at ho;rw[og]at o1;rw[ho]at o2;clear ho og;apply zu;refine zx rfl func4 rfl (by kernel_rfl) ?_;unfold Tryz.f4;simp (maxSteps:=1000000) (disch:=(try simp only[LL]);omega) only[↓GO,↓yQ,GA,GX,ren,zj,za,refs,z7,cst,zm,isC,bin,una,z6,zd,blt,asArg,zg,zc,zf,z1,zn,unN,ze,zk,zb,GS2,simprocAttr,zD,zE,yG,yA,yD,yC,yH,gh1,yz,yr,yu,zR,mkO,yn,yf,yg,mvC,unO,zX,yF,yB,yw,zI,yx,yv,zY,oc,oTs,oT,zQ,zQ.rowTs,yt,isL,E.BX,GZ,d1,d2,d3,a1,a2,a3,t1,t2,o1,o2,L,bne,Bool.not_true,Bool.not_false,beq_self_eq_true,List.length_nil,zA]
  | true =>
   rw[Bool.and_eq_true]at ho;obtain⟨og,oh⟩:=ho;have hXl:X.length≤4096:=by
    rw[hX];unfold xF;rw[og,oh];exact gY og oh
   have hrnd:∀ c∈X,Rnd g h c:=fun c hc=>by
    rw[hX]at hc;unfold xF at hc;rw[og,oh]at hc;exact Q9 (gW og oh c hc)
   have L:=fM g h hBg hBh X hXl hXb hrnd X [] rfl;have hal:=lD og oh;rw[← hX]at hal;have hal':((X.length:Int)==0)=wC g.packs h.packs:=by
    rw[← hal]
    cases hq:(X.length==0) with
    | true=>simp at hq;simp[hq]
    | false=>simp at hq;simp[hq]
   rw[og]at o1;rw[oh]at o2;have hel:=zw.zz X;have hE0:zw.zq []=[]:=rfl;simp only[List.length_nil,Int.natCast_zero]at L
   by_cases hn:g.packs.length=h.packs.length
   · have L2:=Yb g h hBg (.list 4 (zw.zq X)) g.packs h.packs [] [] rfl rfl rfl hn;have c:((g.packs.length:Int)==(h.packs.length:Int))=true:=by rw[hn];simp
     simp only[List.length_nil,Int.natCast_zero]at L2;clear hBg hBh hg hb hXb hX hlen ht hrnd hal hn;obtain⟨top,ps⟩:=g;obtain⟨top',ps'⟩:=h;obtain⟨kind,name,old,new⟩:=t;generalize uO ⟨kind,name,old,new⟩=ct at *;simp only[zy.enc,zw.enc,List.map_cons,List.map_nil]at d2 d3 a1 a2 a3 t1 t2 o1 o2 L L2 c hal' ⊢;generalize zw.zq X=E0 at *;generalize wC ps ps'=sg at *;apply zu;refine zx rfl func4 rfl (by kernel_rfl) ?_;unfold Tryz.f4;simp (maxSteps:=1000000) (disch:=(try simp only[LL]);omega) only[↓GO,↓yQ,GA,GX,ren,zj,za,refs,z7,cst,zm,isC,bin,una,z6,zd,blt,asArg,zg,zc,zf,z1,zn,unN,ze,zk,zb,GS2,simprocAttr,zD,zE,yG,yA,yD,yC,yH,gh1,yz,yr,yu,zR,mkO,yn,yf,yg,mvC,unO,zX,yF,yB,yw,zI,yx,yv,zY,oc,oTs,oT,zQ,zQ.rowTs,yt,isL,E.BX,GZ,d1,d2,d3,a1,a2,a3,t1,t2,o1,o2,L,L2,c,hal',hel,z8.zz,bne,Bool.not_true,Bool.not_false,beq_self_eq_true,List.length_nil,hE0,zA]
   · have L2:=cM g h (.list 4 (zw.zq X)) 0 (by omega);have c:((g.packs.length:Int)==(h.packs.length:Int))=false:=by simp;omega
     have hsf:wC g.packs h.packs=false:=by
      cases hq:wC g.packs h.packs with
      | false=>rfl
      | true=>exact absurd (lP hq) hn
     rw[hsf]at hal';simp only[Int.natCast_zero]at L2;clear hBg hBh hg hb hXb hX hlen ht hrnd hal hn hsf;obtain⟨top,ps⟩:=g;obtain⟨top',ps'⟩:=h;obtain⟨kind,name,old,new⟩:=t;generalize uO ⟨kind,name,old,new⟩=ct at *;simp only[zy.enc,zw.enc,List.map_cons,List.map_nil]at d2 d3 a1 a2 a3 t1 t2 o1 o2 L L2 c hal' ⊢;generalize zw.zq X=E0 at *;apply zu;refine zx rfl func4 rfl (by kernel_rfl) ?_;unfold Tryz.f4;simp (maxSteps:=1000000) (disch:=(try simp only[LL]);omega) only[↓GO,↓yQ,GA,GX,ren,zj,za,refs,z7,cst,zm,isC,bin,una,z6,zd,blt,asArg,zg,zc,zf,z1,zn,unN,ze,zk,zb,GS2,simprocAttr,zD,zE,yG,yA,yD,yC,yH,gh1,yz,yr,yu,zR,mkO,yn,yf,yg,mvC,unO,zX,yF,yB,yw,zI,yx,yv,zY,oc,oTs,oT,zQ,zQ.rowTs,yt,isL,E.BX,GZ,d1,d2,d3,a1,a2,a3,t1,t2,o1,o2,L,L2,c,hal',hel,z8.zz,bne,Bool.not_true,Bool.not_false,beq_self_eq_true,List.length_nil,hE0,zA]
 exact fin _ rfl
theorem SJ (code:List Int)(hc:∀ b∈code,0≤b∧b≤255):zr (EV prog xK) 4 [.t (.list 1 (xl code))]=some (.t (.bool true)):=by
 by_cases h:code.length≤1048576
 · exact aJ code ⟨h,hc⟩
 · have d1:=mP (RW code);rw[show decide ((code.length:Int) > 1048576)=true by apply decide_eq_true;omega]at d1;apply zu;refine zx rfl func4 rfl (by kernel_rfl) ?_;unfold Tryz.f4;simp (maxSteps:=1000000) (disch:=(try simp only[LL]);omega) only[↓GO,↓yQ,GA,GX,ren,zj,za,refs,z7,cst,zm,isC,bin,una,z6,zd,blt,asArg,zg,zc,zf,z1,zn,unN,ze,zk,zb,GS2,simprocAttr,zD,zE,yG,yA,yD,yC,yH,gh1,yz,yr,yu,zR,mkO,yn,yf,yg,mvC,unO,zX,yF,yB,yw,zI,yx,yv,zY,oc,oTs,oT,zQ,zQ.rowTs,yt,isL,E.BX,GZ,d1,zA]
theorem Tryz.own:ownKnob prog.godebug=none:=by kernel_rfl
theorem Tryz.kids:Kids prog (· < Tryz.prog.types.size):=kids_rows (by kernel_rfl) (by kernel_rfl)
theorem Tryz.full:∀ t e,t<Tryz.prog.types.size→Tryz.prog.underlying t=some (.slice e)→0<prog.cellsOf e:=slices_full_of prog (by kernel_rfl)
theorem VO {cs:List T}(h:WT prog 22 cs):∃ bs:List Int,cs=[.list 1 (xl bs)]∧∀ b∈bs,0≤b∧b≤255:=by
 obtain⟨es,e1,e2,e3⟩:=h.WY Tryz.underlying22;have k0:prog.cellsOf 5=1:=by kernel_rfl
 have key:∀ es:List (List T),(∀ c∈es,WT prog 5 c)→∃ bs:List Int,es=xl bs∧∀ b∈bs,0≤b∧b≤255:=fun es=>by
  induction es with
  | nil=>exact fun _=>⟨[],rfl,fun b hb=>by simp at hb⟩
  | cons c es ih =>
   intro h;obtain⟨bs,a1,a2⟩:=ih fun c' hc=>h c' (by simp[hc])
   obtain⟨n,a3,a4⟩:=(h c (by simp)).Sb Tryz.underlying5;refine⟨n::bs,by simp[xl,a1,a3],fun b hb=>?_⟩;rcases List.mem_cons.1 hb with rfl|hb
   · simp[Lit.wf,IntKind.min,IntKind.max,IntKind.bits,IntKind.signed]at a4;omega
   · exact a2 b hb
 obtain⟨bs,a1,a2⟩:=key es e3;subst a1;exact⟨bs,by rw[e1,k0],a2⟩
theorem Wb (g:Nat)(hl:∀ code:List Int,(∀ b∈code,0≤b∧b≤255)→zr (EV prog xK) g [.t (.list 1 (xl code))]=some (.t (.bool true)))(xs:List V)(h:WTA prog [22] xs) :
 EV prog xK (.call g xs [])=some (.call (.t (.bool true)) []):=by
 obtain⟨cs,v,vs,rfl,h1,h2,h3⟩:=h.WZ;have:=h3.Sa;subst this;obtain⟨bs,rfl,hb⟩:=VO h1;have e0:yd prog 22=false:=by kernel_rfl
 rw[e0]at h2;simp[zd]at h2;subst h2;have hq:=hl bs hb;unfold zr at hq
 split at hq
 · rename_i v he;cases hq;exact he
 · cases hq
end Go.Proofs.YtefkoljdebekdaaGreatDoor

/- Joined: J3 P2 K3 J4 K4 K5 K6 A1 A3 I1 G1 I2 V3. Conditions: those of each lemma. -/
import Derived.Test.YtefkoljdebekdaaGreatDoorqJ
import Derived.Test.YtefkoljdebekdaaGreatDoorqI
set_option linter.unusedVariables false
set_option linter.unusedSimpArgs false
set_option maxRecDepth 100000
namespace Go.Proofs.YtefkoljdebekdaaGreatDoor
open E
def okO (o:List Int):Prop:=∀ b∈o,0≤b∧b≤255
noncomputable def txR (bs:List Int)(n:Nat)(o:List Int)(c:Cs)(cap:Option Nat):Option wk :=
 EV Tryz.prog pol (.loop 241 28 1 [.ptr 0 0 0,.t (.int .i64 (n:Int)),.sl 1 0 o.length cap] [cuR bs c,.ts 1 (xE o)])
theorem OI (bs:List Int)(n:Nat)(c:Cs)(x:Int)(K:Nat)(hK:K≤256):∀ (k i:Nat) (o:List Int) (cap:Option Nat),i+k=K→o.length+k≤1048576→∃ cap',
 EV Tryz.prog pol (.loop 241 232174 1 [.ptr 0 0 0,.t (.int .i64 (n:Int)),.sl 1 0 o.length cap,.t (.int .i64 (K:Int)),.t (.int .u8 x),.t (.int .i64 (i:Int))] [cuR bs c,.ts 1 (xE o)])
  = some (.loop (.exit 3) [.ptr 0 0 0,.t (.int .i64 (n:Int)),.sl 1 0 (o++List.replicate k x).length cap'] [cuR bs c,.ts 1 (xE (o++List.replicate k x))])
 | 0,i,o,cap,hi,ho=>by
  have c0:decide ((i:Int)<(K:Int))=false:=by apply decide_eq_false;omega
  refine⟨cap,?_⟩
  rw[List.replicate_zero,List.append_nil]
  unfold cuR
  refine zo Tryz.func241 rfl rfl ?_
  simp (disch:=((try simp only[LL]);omega)) only[↓GO,↓DRW,GA,GX,ren,zk,za,refs,z8,cst,zr,isC,bin,una,z7,zd,blt,asArg,zg,zc,zf,z6,E.mkS,unN,ze,zm,zb,GS,simprocAttr,GZ,c0,zA]
 | k + 1, i, o, cap, hi, ho => by
  have c0:decide ((i:Int)<(K:Int))=true:=by apply decide_eq_true;omega
  have hol:=vk o
  obtain⟨cap',IH⟩:=OI bs n c x K hK k (i+1) (o++[x]) none (by omega) (by
   simp only[List.length_append,List.length_cons,List.length_nil];omega)
  refine⟨cap',?_⟩
  rw[show ((i+1:Nat):Int)=(i:Int)+1 by omega,show xE (o++[x])=xE o++[[.int .u8 x]] by simp[xE],List.length_append,List.length_singleton]at IH
  rw[List.replicate_succ,show o++x::List.replicate k x=(o++[x])++List.replicate k x by simp]
  generalize (o++[x])++List.replicate k x=Z at *
  unfold cuR at *
  refine zo Tryz.func241 rfl rfl ?_
  simp (disch:=((try simp only[LL]);omega)) only[↓GO,↓DRW,GA,GX,ren,zk,za,refs,z8,cst,zr,isC,bin,una,z7,zd,blt,asArg,zg,zc,zf,z6,E.mkS,unN,ze,zm,zb,GS,simprocAttr,GZ,c0,hol,zq,ya,zA,IH]
def cpO (fr:Nat):Nat→Nat→List Int→List Int
 | 0,i,o=>o
 | k+1,i,o=>cpO fr k (i+1) (o++[o.getD (fr+i) 0])
theorem XZ (fr:Nat):∀ (k i:Nat) (o:List Int),(cpO fr k i o).length=o.length+k
 | 0,i,o=>rfl
 | k+1,i,o=>by rw[cpO,XZ fr k,List.length_append,List.length_singleton];omega
theorem fL {o:List Int}(h:okO o){x:Int}(hx:0≤x∧x≤255):okO (o++[x]):=fun b hb=>(List.mem_append.1 hb).elim (h b) fun e=>by simp at e;subst e;exact hx
theorem Pz {o:List Int}(h:okO o)(i:Nat):0≤o.getD i 0∧o.getD i 0≤255:=by
 rw[List.getD_eq_getElem?_getD]
 cases hg:o[i]? with
 | none=>simp
 | some x=>exact h x (List.mem_of_getElem? hg)
theorem RW (fr:Nat):∀ (k i:Nat) (o:List Int),okO o→okO (cpO fr k i o)
 | 0,i,o,h=>h
 | k+1,i,o,h=>RW fr k (i+1) _ (fL h (Pz h _))
theorem OH (bs:List Int)(n:Nat)(c:Cs)(fr:Nat)(K:Nat)(hK:K≤256):∀ (k i:Nat) (o:List Int) (cap:Option Nat),i+k=K→o.length+k≤1048576→fr+i<o.length→∃ (cap':Option Nat),
 EV Tryz.prog pol (.loop 241 3714990 1 [.ptr 0 0 0,.t (.int .i64 (n:Int)),.sl 1 0 o.length cap,.t (.int .i64 (fr:Int)),.t (.int .i64 (K:Int)),.t (.int .i64 (i:Int))] [cuR bs c,.ts 1 (xE o)])
  = some (.loop (.exit 5) [.ptr 0 0 0,.t (.int .i64 (n:Int)),.sl 1 0 (cpO fr k i o).length cap'] [cuR bs c,.ts 1 (xE (cpO fr k i o))])
 | 0,i,o,cap,hi,ho,hf=>by
  have c0:decide ((i:Int)<(K:Int))=false:=by apply decide_eq_false;omega
  refine⟨cap,?_⟩
  rw[cpO]
  unfold cuR
  refine zo Tryz.func241 rfl rfl ?_
  simp (disch:=((try simp only[LL]);omega)) only[↓GO,↓DRW,GA,GX,ren,zk,za,refs,z8,cst,zr,isC,bin,una,z7,zd,blt,asArg,zg,zc,zf,z6,E.mkS,unN,ze,zm,zb,GS,simprocAttr,GZ,c0,zA]
 | k + 1, i, o, cap, hi, ho, hf => by
  have c0:decide ((i:Int)<(K:Int))=true:=by apply decide_eq_true;omega
  have c1:decide (((fr+i:Nat):Int)<(o.length:Int))=true:=by apply decide_eq_true;omega
  have c2:decide ((0:Int)≤((fr+i:Nat):Int))=true:=by apply decide_eq_true;omega
  have hol:=vk o
  have hg:o[fr+i]? = some (o.getD (fr+i) 0):=by rw[List.getD_eq_getElem?_getD,List.getElem?_eq_getElem hf];rfl
  have hget:(xE o)[fr+i]? = some [.int .u8 (o.getD (fr+i) 0)]:=by unfold xE;rw[List.getElem?_map,hg];rfl
  rw[cpO]
  generalize o.getD (fr+i) 0=x at *
  obtain⟨cap',IH⟩:=OH bs n c fr K hK k (i+1) (o++[x]) none (by omega) (by
   simp only[List.length_append,List.length_cons,List.length_nil];omega) (by simp;omega)
  refine⟨cap',?_⟩
  rw[show ((i+1:Nat):Int)=(i:Int)+1 by omega,show xE (o++[x])=xE o++[[.int .u8 x]] by simp[xE],List.length_append,List.length_singleton]at IH
  have hfi:(fr:Int)+(i:Int)=((fr+i:Nat):Int):=by omega
  generalize cpO fr k (i+1) (o++[x])=Z at *
  unfold cuR at *
  generalize Z.length=zl at *
  generalize o.length=ol at *
  refine zo Tryz.func241 rfl rfl ?_
  simp (disch:=((try simp only[LL]);omega)) only[↓GO,↓DRW,GA,GX,ren,zk,za,refs,z8,cst,zr,isC,bin,una,z7,zd,blt,asArg,zg,zc,zf,z6,E.mkS,unN,ze,zm,zb,GS,simprocAttr,GZ,c0,hol,zq,hfi,c1,c2,hget,ya,zA,IH]
def TxG (bs:List Int)(n:Nat)(o:List Int)(c:Cs):Prop:=∀ cap,∃ (o':List Int) (c':Cs) (cap':Option Nat),n≤o'.length∧o'.length≤n+32∧okO o'∧cok bs c' ∧
 txR bs n o c cap=some (.loop (.exit 0) [.t (.int .i64 (n:Int)),.sl 1 0 o'.length cap'] [cuR bs c',.ts 1 (xE o')])
theorem Ra (bs:List Int)(n:Nat)(o:List Int)(c:Cs)(hok:okO o)(hc:cok bs c)(h:n≤o.length)(h2:o.length≤n+32):TxG bs n o c:=fun cap=>by
 have c0:decide ((o.length:Int)<(n:Int))=false:=by apply decide_eq_false;omega
 refine⟨o,c,cap,h,h2,hok,hc,?_⟩
 have hol:=vk o
 unfold txR cuR
 refine zo Tryz.func241 rfl rfl ?_
 simp (disch:=((try simp only[LL]);omega)) only[↓GO,↓DRW,GA,GX,ren,zk,za,refs,z8,cst,zr,isC,bin,una,z7,zd,blt,asArg,zg,zc,zf,z6,E.mkS,unN,ze,zm,zb,GS,simprocAttr,GZ,c0,zA]
theorem ju (bs:List Int):∀ (j:Nat) (c:Cs),cok bs c→cok bs (xT bs j c)
 | 0,c,h=>h
 | j+1,c,h=>ju bs j _ (Rv bs c h)
set_option maxHeartbeats 4000000 in
theorem QG (bs:List Int)(hb:okB bs)(n:Nat)(hn:n≤64)(o:List Int)(c:Cs)(hok:okO o)(hc:cok bs c)(hlt:o.length<n):∃ (o1:List Int) (j:Nat),1≤j∧j≤3∧okO o1∧o.length≤o1.length∧o1.length≤o.length+20 ∧
 (o1.length=o.length→o1=o∧(nxN bs c % 5=1∨nxN bs c % 5=2))∧(TxG bs n o1 (xT bs j c)→TxG bs n o c):=by
 have c0:decide ((o.length:Int)<(n:Int))=true:=by apply decide_eq_true;omega
 have hol:=vk o
 have d1:=jw bs hb c hc 5 (by decide) (by decide)
 have hc1:=ju bs 1 c hc
 have hc2:=ju bs 2 c hc
 have hc3:=ju bs 3 c hc
 have q1:nxC bs c=xT bs 1 c:=rfl
 have q2:nxC bs (xT bs 1 c)=xT bs 2 c:=rfl
 have q3:nxC bs (xT bs 2 c)=xT bs 3 c:=rfl
 rw[q1]at d1
 have h5:nxN bs c % 5<5:=Nat.mod_lt _ (by decide)
 have hv:nxN bs c % 5=0∨nxN bs c % 5=1∨nxN bs c % 5=2∨nxN bs c % 5=3∨nxN bs c % 5=4:=by omega
 rcases hv with hv | hv | hv | hv | hv<;>rw[hv]at d1<;>simp only[Int.cast_ofNat_Int,Int.natCast_zero,Int.natCast_one]at d1
 · have d2 := Q4 bs hb _ hc1
   rw[q2,Ru]at d2
   have hle:=NF bs (xT bs 1 c)
   refine⟨o++[(nxN bs (xT bs 1 c):Int)],2,by decide,by decide,fL hok (by omega),by simp,by simp,fun h=>by simp at h,fun H cap=>?_⟩
   obtain⟨o',c',cap',e1,e2,e3,e4,e⟩:=H none
   refine⟨o',c',cap',e1,e2,e3,e4,?_⟩
   unfold txR at e ⊢
   rw[show xE (o++[(nxN bs (xT bs 1 c):Int)])=xE o++[[.int .u8 (nxN bs (xT bs 1 c):Int)]] by simp[xE],List.length_append,List.length_singleton]at e
   generalize nxN bs (xT bs 1 c)=x at *
   generalize xT bs 1 c=k1 at *
   generalize xT bs 2 c=k2 at *
   unfold cuR at *
   generalize o'.length=ol' at *
   generalize o.length=ol at *
   have hu:IntKind.u8.wrap (x:Int)=(x:Int):=IntWalk.u8_in _ (by omega)
   refine zo Tryz.func241 rfl rfl ?_
   simp (disch:=((try simp only[LL]);omega)) only[↓GO,↓DRW,GA,GX,ren,zk,za,refs,z8,cst,zr,isC,bin,una,z7,zd,blt,asArg,zg,zc,zf,z6,E.mkS,unN,ze,zm,zb,GS,simprocAttr,GZ,c0,d1,d2,hol,conv,hu,zq,ya,zA,e]
 · have d2 := jw bs hb _ hc1 9 (by decide) (by decide)
   have d3:=jw bs hb _ hc2 4 (by decide) (by decide)
   rw[q2]at d2
   rw[q3]at d3
   simp only[Int.cast_ofNat_Int,Int.natCast_zero,Int.natCast_one]at d2 d3
   have h9:nxN bs (xT bs 1 c) % 9<9:=Nat.mod_lt _ (by decide)
   have h4:nxN bs (xT bs 2 c) % 4<4:=Nat.mod_lt _ (by decide)
   generalize nxN bs (xT bs 1 c) % 9=K at *
   generalize nxN bs (xT bs 2 c) % 4=y at *
   refine⟨o++List.replicate K ((97:Int)+(y:Int)),3,by decide,by decide,fun b hb'=>(List.mem_append.1 hb').elim (hok b) fun h=>by rw[List.eq_of_mem_replicate h];omega,by simp,by simp;omega,fun h=>⟨by
    simp at h;subst h;simp,.inl hv⟩,fun H cap=>?_⟩
   obtain⟨cap1,L⟩:=OI bs n (xT bs 3 c) ((97:Int)+(y:Int)) K (by omega) K 0 o cap (by omega) (by omega)
   obtain⟨o',c',cap',e1,e2,e3,e4,e⟩:=H cap1
   refine⟨o',c',cap',e1,e2,e3,e4,?_⟩
   unfold txR at e ⊢
   simp only[Int.natCast_zero]at L
   generalize o++List.replicate K ((97:Int)+(y:Int))=Z at *
   generalize xT bs 1 c=k1 at *
   generalize xT bs 2 c=k2 at *
   generalize xT bs 3 c=k3 at *
   unfold cuR at *
   generalize o'.length=ol' at *
   generalize o.length=ol at *
   generalize Z.length=zl at *
   have hu:IntKind.u8.wrap ((97:Int)+(y:Int))=(97:Int)+(y:Int):=IntWalk.u8_in _ (by omega)
   refine zo Tryz.func241 rfl rfl ?_
   simp (disch:=((try simp only[LL]);omega)) only[↓GO,↓DRW,GA,GX,ren,zk,za,refs,z8,cst,zr,isC,bin,una,z7,zd,blt,asArg,zg,zc,zf,z6,E.mkS,unN,ze,zm,zb,GS,simprocAttr,GZ,c0,d1,d2,d3,hol,conv,hu,zq,ya,zA,L,e]
 · by_cases hz : o.length = 0
   · obtain rfl : o = [] := List.eq_nil_of_length_eq_zero hz
     refine⟨[],1,by decide,by decide,hok,Nat.le_refl _,by simp,fun _=>⟨rfl,.inr hv⟩,fun H cap=>?_⟩
     obtain⟨o',c',cap',e1,e2,e3,e4,e⟩:=H cap
     refine⟨o',c',cap',e1,e2,e3,e4,?_⟩
     unfold txR at e ⊢
     generalize xT bs 1 c=k1 at *
     simp only[List.length_nil,Int.natCast_zero,show xE []=[] from rfl]at c0 e ⊢
     unfold cuR at *
     generalize o'.length=ol' at *
     refine zo Tryz.func241 rfl rfl ?_
     simp (disch:=((try simp only[LL]);omega)) only[↓GO,↓DRW,GA,GX,ren,zk,za,refs,z8,cst,zr,isC,bin,una,z7,zd,blt,asArg,zg,zc,zf,z6,E.mkS,unN,ze,zm,zb,GS,simprocAttr,GZ,c0,d1,zq,zA,e]
   · have cz : decide ((o.length : Int) > 0) = true := by apply decide_eq_true; omega
     have d2:=jw bs hb _ hc1 o.length (by omega) (by omega)
     have d3:=jw bs hb _ hc2 20 (by decide) (by decide)
     rw[q2]at d2
     rw[q3]at d3
     simp only[Int.cast_ofNat_Int,Int.natCast_zero,Int.natCast_one]at d3
     have h9:nxN bs (xT bs 1 c) % o.length<o.length:=Nat.mod_lt _ (by omega)
     have h4:nxN bs (xT bs 2 c) % 20<20:=Nat.mod_lt _ (by decide)
     generalize nxN bs (xT bs 1 c) % o.length=fr at *
     generalize nxN bs (xT bs 2 c) % 20=K at *
     have g1:=XZ fr K 0 o
     refine⟨cpO fr K 0 o,3,by decide,by decide,RW fr K 0 o hok,by omega,by omega,fun h=>⟨?_,.inr hv⟩,fun H cap=>?_⟩
     · obtain rfl : K = 0 := by omega
       rfl
     obtain⟨cap1,L⟩:=OH bs n (xT bs 3 c) fr K (by omega) K 0 o cap (by omega) (by omega) (by omega)
     generalize cpO fr K 0 o=o1 at *
     obtain⟨o',c',cap',e1,e2,e3,e4,e⟩:=H cap1
     refine⟨o',c',cap',e1,e2,e3,e4,?_⟩
     unfold txR at e ⊢
     simp only[Int.natCast_zero]at L
     generalize xT bs 1 c=k1 at *
     generalize xT bs 2 c=k2 at *
     generalize xT bs 3 c=k3 at *
     unfold cuR at *
     generalize o'.length=ol' at *
     generalize o.length=ol at *
     generalize o1.length=zl at *
     refine zo Tryz.func241 rfl rfl ?_
     simp (disch:=((try simp only[LL]);omega)) only[↓GO,↓DRW,GA,GX,ren,zk,za,refs,z8,cst,zr,isC,bin,una,z7,zd,blt,asArg,zg,zc,zf,z6,E.mkS,unN,ze,zm,zb,GS,simprocAttr,GZ,c0,cz,d1,d2,d3,hol,conv,zq,ya,zA,L,e]
 all_goals
  have d2:=jw bs hb _ hc1 26 (by decide) (by decide)
  rw[q2]at d2
  simp only[Int.cast_ofNat_Int,Int.natCast_zero,Int.natCast_one]at d2
  have h9:nxN bs (xT bs 1 c) % 26<26:=Nat.mod_lt _ (by decide)
  generalize nxN bs (xT bs 1 c) % 26=y at *
  refine⟨o++[(97:Int)+(y:Int)],2,by decide,by decide,fL hok (by omega),by simp,by simp,fun h=>by simp at h,fun H cap=>?_⟩
  obtain⟨o',c',cap',e1,e2,e3,e4,e⟩:=H none
  refine⟨o',c',cap',e1,e2,e3,e4,?_⟩
  unfold txR at e ⊢
  rw[show xE (o++[(97:Int)+(y:Int)])=xE o++[[.int .u8 ((97:Int)+(y:Int))]] by simp[xE],List.length_append,List.length_singleton]at e
  generalize xT bs 1 c=k1 at *
  generalize xT bs 2 c=k2 at *
  unfold cuR at *
  generalize o'.length=ol' at *
  generalize o.length=ol at *
  have hu:IntKind.u8.wrap ((97:Int)+(y:Int))=(97:Int)+(y:Int):=IntWalk.u8_in _ (by omega)
  refine zo Tryz.func241 rfl rfl ?_
  simp (disch:=((try simp only[LL]);omega)) only[↓GO,↓DRW,GA,GX,ren,zk,za,refs,z8,cst,zr,isC,bin,una,z7,zd,blt,asArg,zg,zc,zf,z6,E.mkS,unN,ze,zm,zb,GS,simprocAttr,GZ,c0,d1,d2,hol,conv,hu,zq,ya,zA,e]
def Gj (bs:List Int)(c:Cs):Prop:=c=pH bs∨c=nxC bs (pH bs)∨c=nxC bs (nxC bs (pH bs))
theorem QB {bs:List Int}{c:Cs}(h:Gj bs c):¬ (nxN bs c % 5=1∨nxN bs c % 5=2):=by
 obtain⟨h1,h2,h3⟩:=UW bs
 rcases h with rfl | rfl | rfl
 · rw[h1];decide
 · rw[h2];decide
 · rw[h3];decide
theorem Nq (bs : List Int) (hb : okB bs) (n : Nat) (hn : n ≤ 64) : ∀ (d : Nat) (o : List Int) (c : Cs), n - o.length ≤ d → okO o → cok bs c → o.length ≤ n + 32 → TxG bs n o c := by
 intro d
 induction d with
 | zero=>exact fun o c hd hok hc h32=>Ra bs n o c hok hc (by omega) h32
 | succ d ihd =>
  intro o c hd hok hc h32
  by_cases hlt:o.length<n
  · have main : ∀ (m : Nat) (c : Cs), cok bs c → (xT bs m c = pH bs ∨ Gj bs c) → TxG bs n o c := by
     intro m
     induction m using Nat.strongRecOn with
     | _ m ih =>
      intro c hc hm
      obtain⟨o1,j,j1,j3,k1,k2,k3,k4,k5⟩:=QG bs hb n hn o c hok hc hlt
      refine k5 ?_
      by_cases hg:o1.length=o.length
      · obtain ⟨rfl, hx⟩ := k4 hg
        have hnz:¬ Gj bs c:=fun hz=>QB hz hx
        have hm':=hm.resolve_right hnz
        have hm0:m≠0:=fun e=>hnz (.inl (by subst e;exact hm'))
        by_cases hjm:j≤m
        · refine ih (m - j) (by omega) _ (ju bs j c hc) (.inl ?_)
          rw[← rI,show j+(m - j)=m by omega];exact hm'
        · refine ih 0 (by omega) _ (ju bs j c hc) (.inr ?_)
          have e:xT bs j c=xT bs (j - m) (pH bs):=by rw[← hm',← rI];congr 1;omega
          rw[e]
          have hj:j - m=1∨j - m=2:=by omega
          rcases hj with h | h<;>rw[h]
          · exact .inr (.inl rfl)
          · exact .inr (.inr rfl)
      · exact ihd o1 _ (by omega) k1 (ju bs j c hc) (by omega)
    obtain⟨m,hm⟩:=aQ bs c hc
    exact main m c hc (.inl hm)
  · exact Ra bs n o c hok hc (by omega) h32
theorem Q5:∀ o:List Int,bytesOf (xE o)=some o
 | []=>rfl
 | x::o=>by
  rw[show xE (x::o)=[.int .u8 x]::xE o from rfl]
  simp only[bytesOf,Q5 o]
theorem Vc (o:List Int)(n:Nat):(xE o).take n=xE (o.take n):=by simp[xE]
theorem NX (bs:List Int)(hb:okB bs)(c:Cs)(hc:cok bs c)(n:Nat)(hn:n≤64):∃ (s:Str) (c':Cs),s.length=n∧cok bs c'∧EV Tryz.prog pol (.callO false 241 [.ptr 0 0 0,.t (.int .i64 (n:Int))] [cuR bs c])=some (.call (.t (.str s)) [cuR bs c']):=by
 obtain⟨o',c',cap',e1,e2,e3,e4,e⟩:=Nq bs hb n hn n [] c (by simp) (fun b hb=>by simp at hb) hc (by simp) (some 0)
 refine⟨(o'.take n).map fun b=>UInt8.ofNat b.toNat,c',by simp;omega,e4,?_⟩
 have c1:(0:Int)≤(n:Int)∧(n:Int)≤(o'.length:Int):=⟨by omega,by omega⟩
 have hel:=vk o'
 have ht:=Vc o' n
 have hy:=Q5 (o'.take n)
 unfold txR at e
 simp only[List.length_nil,show xE []=[] from rfl]at e
 generalize o'.take n=Z at *
 unfold cuR at *
 generalize o'.length=ol at *
 refine zH Tryz.func241 rfl (by kernel_rfl) ?_
 unfold Tryz.f241
 simp (disch:=((try simp only[LL]);omega)) only[↓GO,↓DRW,GA,GX,ren,zk,za,refs,z8,cst,zr,isC,bin,una,z7,zd,blt,asArg,zg,zc,zf,z6,E.mkS,unN,ze,zm,zb,GS,simprocAttr,GZ,e,conv,u0,ht,hy,c1,Int.toNat_natCast,List.drop_zero,Nat.sub_zero,zA]
theorem zU {α:Type}{b:Bool}{x y r:Option α}(h:b=true)(hx:x=r):(if b=true then x else y)=r:=by rw[h];exact hx
theorem aP (c:Str)(x:Str):∀ pre:List Str,vx c (pre++[x])=cond (pre==[]) ((c++[45])++x) ((vx c pre++[46])++x)
 | []=>by simp[vx,Lib.join_one]
 | y::l=>by
  unfold vx
  rw[kb]
  simp
theorem jV (c:Str)(l:List Str):(vx c l).length≤c.length+yg l+l.length+1:=by
 have h:=join_le [46] l
 unfold vx
 cases l with
 | nil=>simp only[show (([]:List Str)==[])=true from rfl,cond_true];omega
 | cons x r =>
  simp only[beq_nil_cons,cond_false,List.length_append,List.length_cons,List.length_nil]at h ⊢
  omega
theorem ai {v:Ver}(h:xr v=true):(tm v).length≤29:=by
 obtain⟨h1,h2,h3,_,_⟩:=tN h
 have a:=vL v.maj h1.1 h1.2
 have b:=vL v.min h2.1 h2.2
 have c:=vL v.pat h3.1 h3.2
 unfold tm
 simp only[List.length_append,List.length_cons,List.length_nil]
 omega
theorem oI (v:Ver)(hs:v.sm):zu (EV Tryz.prog pol) 128 [.agg (v.enc.map .t)]=some (.t (.str (yl v))):=by
 have h1:=NW v hs
 unfold Ver.sm at hs
 unfold yl
 cases ho:xr v with
 | false =>
  rw[ho]at h1
  simp only[Ver.enc,List.map_cons,List.map_nil]at h1 ⊢
  apply zx
  refine zy rfl Tryz.func128 rfl (by kernel_rfl) ?_
  unfold Tryz.f128
  simp (disch:=((try simp only[LL]);omega)) only[↓GO,↓DRW,GA,GX,ren,zk,za,refs,z8,cst,zr,isC,bin,una,z7,zd,blt,asArg,zg,zc,zf,z6,E.mkS,unN,ze,zm,zb,GS,simprocAttr,GZ,h1]
 | true =>
  obtain⟨q1,q2,q3,_,_⟩:=tN ho
  have a:=vL v.maj q1.1 q1.2
  have b:=vL v.min q2.1 q2.2
  have c:=vL v.pat q3.1 q3.2
  have d1:=eJ v.maj q1.1 q1.2
  have d2:=eJ v.min q2.1 q2.2
  have d3:=eJ v.pat q3.1 q3.2
  have hj:=join_le [46] v.pre
  simp only[List.length_cons,List.length_nil]at hj
  have h2:=Mb v.pre [46] (by omega) (by omega)
  have hg:=Yo v.pre
  rw[ho]at h1
  unfold vx tm
  simp only[Ver.enc,List.map_cons,List.map_nil]at h1 ⊢
  cases hp:(v.pre==[])<;>rw[hp]at hg<;>simp only[Bool.not_true,Bool.not_false]at hg
  · apply zx
    refine zy rfl Tryz.func128 rfl (by kernel_rfl) ?_
    unfold Tryz.f128
    simp (disch:=((try simp only[LL]);omega)) only[↓GO,↓DRW,GA,GX,ren,zk,za,refs,z8,cst,zr,isC,bin,una,z7,zd,blt,asArg,zg,zc,zf,z6,E.mkS,unN,ze,zm,zb,GS,simprocAttr,GZ,h1,d1,d2,d3,h2,hg,ya,zi,List.append_assoc]
  · apply zx
    refine zy rfl Tryz.func128 rfl (by kernel_rfl) ?_
    unfold Tryz.f128
    simp (disch:=((try simp only[LL]);omega)) only[↓GO,↓DRW,GA,GX,ren,zk,za,refs,z8,cst,zr,isC,bin,una,z7,zd,blt,asArg,zg,zc,zf,z6,E.mkS,unN,ze,zm,zb,GS,simprocAttr,GZ,h1,d1,d2,d3,h2,hg,ya,zi,List.append_assoc]
theorem OG (v:Ver)(hs:v.sm)(c:Str)(hc:c.length≤40):∀ (rest pre:List Str),v.pre=pre++rest →
 EV Tryz.prog pol (.loop 160 122 0 [.ptr 0 0 0,.t (.str (vx c pre)),.t (.int .i64 (pre.length:Int))] [.vs 4 [v.enc.map .t]])
 = some (.loop (.exit 0) [.t (.str (vx c v.pre))] [])
 | [],pre,hp=>by
  have c:decide ((pre.length:Int)<(v.pre.length:Int))=false:=by simp[hp]
  have e:v.pre=pre:=by simpa using hp
  refine zo Tryz.func160 rfl rfl ?_
  simp only[↓GO,↓DRW,GA,GX,ren,zk,za,refs,z8,cst,zr,isC,bin,una,z7,zd,blt,asArg,zg,zc,zf,z6,E.mkS,unN,ze,zm,zb,GS,simprocAttr,zi,c,Ver.enc,zA]
  rw[e]
 | x::rest,pre,hp=>by
  unfold Ver.sm at hs
  have c2:decide ((pre.length:Int)<(v.pre.length:Int))=true:=by simp[hp];omega
  have hget:(strs v.pre)[pre.length]? = some [.str x]:=by rw[hp];exact vK pre x rest
  have hlen:pre.length+rest.length+1≤v.pre.length:=by rw[hp];simp;omega
  have hbk:yg pre+x.length≤yg v.pre:=by rw[hp,jb];simp only[yg];omega
  have ht:=jV c pre
  have IH:=OG v hs c hc rest (pre++[x]) (by rw[hp];simp)
  rw[show ((pre++[x]).length:Int)=(pre.length:Int)+1 by simp,aP]at IH
  have he:=lq pre
  have e0:(pre==[])=true→vx c pre=c:=fun h=>by unfold vx;rw[h];rfl
  clear hp
  simp only[Ver.enc,List.map_cons,List.map_nil]at IH ⊢
  cases h0:(pre==[])<;>rw[h0]at he IH<;>simp only[cond_true,cond_false]at IH
  · refine zo Tryz.func160 rfl rfl ?_
    simp (disch:=((try simp only[LL]);omega)) only[↓GO,↓DRW,GA,GX,ren,zk,za,refs,z8,cst,zr,isC,bin,una,z7,zd,blt,asArg,zg,zc,zf,z6,E.mkS,unN,ze,zm,zb,GS,simprocAttr,GZ,c2,hget,zq,he,zi,IH,zA,ya]
  · have e1 := e0 h0
    rw[e1]
    refine zo Tryz.func160 rfl rfl ?_
    simp (disch:=((try simp only[LL]);omega)) only[↓GO,↓DRW,GA,GX,ren,zk,za,refs,z8,cst,zr,isC,bin,una,z7,zd,blt,asArg,zg,zc,zf,z6,E.mkS,unN,ze,zm,zb,GS,simprocAttr,GZ,c2,hget,zq,he,zi,IH,zA,ya]
theorem ja (v:Ver)(hs:v.sm):zu (EV Tryz.prog pol) 160 [.agg (v.enc.map .t)]=some (.t (.str (yl v))):=by
 have h1:=Yv v hs
 unfold yl
 cases ho:xr v with
 | false =>
  rw[ho]at h1
  simp only[Ver.enc,List.map_cons,List.map_nil]at h1 ⊢
  apply zx
  refine zy rfl Tryz.func160 rfl (by kernel_rfl) ?_
  unfold Tryz.f160
  simp (disch:=((try simp only[LL]);omega)) only[↓GO,↓DRW,GA,GX,ren,zk,za,refs,z8,cst,zr,isC,bin,una,z7,zd,blt,asArg,zg,zc,zf,z6,E.mkS,unN,ze,zm,zb,GS,simprocAttr,GZ,h1]
 | true =>
  obtain⟨q1,q2,q3,_,_⟩:=tN ho
  have a:=vL v.maj q1.1 q1.2
  have b:=vL v.min q2.1 q2.2
  have c:=vL v.pat q3.1 q3.2
  have d1:=eI v.maj q1.1 q1.2
  have d2:=eI v.min q2.1 q2.2
  have d3:=eI v.pat q3.1 q3.2
  have hc:=ai ho
  have h2:=OG v hs (tm v) (by omega) v.pre [] rfl
  rw[ho]at h1
  rw[show vx (tm v) []=tm v from rfl]at h2
  simp only[List.length_nil,Int.natCast_zero]at h2
  simp only[cond_true]
  generalize vx (tm v) v.pre=tt at *
  unfold tm at h2
  simp only[Ver.enc,List.map_cons,List.map_nil]at h1 h2 ⊢
  apply zx
  refine zy rfl Tryz.func160 rfl (by kernel_rfl) ?_
  unfold Tryz.f160
  simp (disch:=((try simp only[LL]);omega)) only[↓GO,↓DRW,GA,GX,ren,zk,za,refs,z8,cst,zr,isC,bin,una,z7,zd,blt,asArg,zg,zc,zf,z6,E.mkS,unN,ze,zm,zb,GS,simprocAttr,GZ,h1,d1,d2,d3,h2,ya,zA]
theorem lW {s:Str}(h:(xu 46 (yI 45 s).1).length≠3):ub s=none:=by
 unfold ub
 split
 · rename_i a b c he;rw[he]at h;exact absurd rfl h
 · rfl
theorem kS {s:Str}{v:Ver}(h:ub s=some v)(hl:s.length≤1048700):v.sm∧v.maj≤999999999∧-1≤v.maj∧v.min≤999999999∧-1≤v.min∧v.pat≤999999999∧-1≤v.pat:=by
 unfold ub at h
 split at h
 · rename_i a b c he
   cases h
   have h1:=rk a
   have h2:=rk b
   have h3:=rk c
   refine⟨?_,h1.2,h1.1,h2.2,h2.1,h3.2,h3.1⟩
   have:=u5 46 (yI 45 s).2.1
   have h5:=(oG 45 s).2
   unfold Ver.sm
   cases (yI 45 s).2.2 with
   | true=>simp only[cond_true];omega
   | false=>simp[yg]
 · cases h
theorem lI (s:Str)(hl:s.length≤1048700):(y5 s).1.sm∧(y5 s).1.maj≤999999999∧-1≤(y5 s).1.maj∧(y5 s).1.min≤999999999∧-1≤(y5 s).1.min∧(y5 s).1.pat≤999999999∧-1≤(y5 s).1.pat:=by
 unfold y5
 cases hm:ub s with
 | none=>simp[Ver.zero,Ver.sm,yg]
 | some v =>
  have:=kS hm hl
  simp only
  cases (yl v==s) with
  | true=>exact this
  | false=>simp[Ver.zero,Ver.sm,yg]
def rvT (s:Str):V:=.tup [.agg ((y5 s).1.enc.map .t),.t (.bool (y5 s).2)]
theorem c_rvI (s:Str)(hl:s.length≤1048700):zu (EV Tryz.prog pol) 45 [.t (.str s)]=some (rvT s):=by
 have h1:=c_cut s [45] (by omega)
 rw[aa]at h1
 have hl1:=oG 45 s
 have h2:=eu (yI 45 s).1 [46] (by omega) (by simp)
 have h3:=eu (yI 45 s).2.1 [46] (by omega) (by simp)
 rw[lC]at h2 h3
 unfold rvT y5
 by_cases hn:(xu 46 (yI 45 s).1).length=3
 · obtain ⟨a, b, c, hp⟩ : ∃ a b c, xu 46 (yI 45 s).1 = [a, b, c] := by
    match hq:xu 46 (yI 45 s).1,hn with
    | [a,b,c],_=>exact⟨a,b,c,rfl⟩
   have hm:ub s=some ⟨zT a,zT b,zT c,cond (yI 45 s).2.2 (xu 46 (yI 45 s).2.1) []⟩:=by unfold ub;rw[hp]
   have hne:=bb hm
   have hsm:=(kS hm hl).1
   have hbk:=u5 46 (yI 45 s).1
   rw[hp]at h2 hbk
   simp only[yg]at hbk
   have d1:=Wr a (by omega)
   have d2:=Wr b (by omega)
   have d3:=Wr c (by omega)
   have hv:=oI _ hsm
   rw[hm]
   have hs0:(s==[])=false:=by rw[beq_eq_false_iff_ne];exact hne
   simp only[Ver.enc,List.map_cons,List.map_nil,uI,yM]at hv h2 ⊢
   generalize zT a=ra at *
   generalize zT b=rb at *
   generalize zT c=rc at *
   cases hh:(yI 45 s).2.2<;>rw[hh]at h1 hv<;>simp only[cond_true,cond_false,yM]at hv ⊢
   · generalize yl ⟨ra, rb, rc, []⟩ = tt at *
     clear hm hsm
     cases he:(tt==s)
     · apply zx
       refine zy rfl Tryz.func45 rfl (by kernel_rfl) ?_
       unfold Tryz.f45
       simp (disch:=((try simp only[LL]);omega)) only[↓GO,↓DRW,GA,GX,ren,zk,za,refs,z8,cst,zr,isC,bin,una,z7,zd,blt,asArg,zg,zc,zf,z6,E.mkS,unN,ze,zm,zb,GS,simprocAttr,GZ,h1,h2,d1,d2,d3,hv,he,bne,hs0,Ver.zero,yM]
       refine zU (by kernel_rfl) ?_
       simp (disch:=((try simp only[LL]);omega)) only[↓GO,↓DRW,GA,GX,ren,zk,za,refs,z8,cst,zr,isC,bin,una,z7,zd,blt,asArg,zg,zc,zf,z6,E.mkS,unN,ze,zm,zb,GS,simprocAttr,GZ,h1,h2,d1,d2,d3,hv,he,bne,hs0,Ver.zero,yM]
     · apply zx
       refine zy rfl Tryz.func45 rfl (by kernel_rfl) ?_
       unfold Tryz.f45
       simp (disch:=((try simp only[LL]);omega)) only[↓GO,↓DRW,GA,GX,ren,zk,za,refs,z8,cst,zr,isC,bin,una,z7,zd,blt,asArg,zg,zc,zf,z6,E.mkS,unN,ze,zm,zb,GS,simprocAttr,GZ,h1,h2,d1,d2,d3,hv,he,bne,hs0,yM]
       refine zU (by kernel_rfl) ?_
       simp (disch:=((try simp only[LL]);omega)) only[↓GO,↓DRW,GA,GX,ren,zk,za,refs,z8,cst,zr,isC,bin,una,z7,zd,blt,asArg,zg,zc,zf,z6,E.mkS,unN,ze,zm,zb,GS,simprocAttr,GZ,h1,h2,d1,d2,d3,hv,he,bne,hs0,yM]
   · generalize yl ⟨ra, rb, rc, xu 46 (yI 45 s).2.1⟩ = tt at *
     clear hm hsm
     generalize xu 46 (yI 45 s).2.1=pp at *
     cases he:(tt==s)
     · apply zx
       refine zy rfl Tryz.func45 rfl (by kernel_rfl) ?_
       unfold Tryz.f45
       simp (disch:=((try simp only[LL]);omega)) only[↓GO,↓DRW,GA,GX,ren,zk,za,refs,z8,cst,zr,isC,bin,una,z7,zd,blt,asArg,zg,zc,zf,z6,E.mkS,unN,ze,zm,zb,GS,simprocAttr,GZ,h1,h2,h3,d1,d2,d3,hv,he,bne,hs0,Ver.zero,yM]
       refine zU (by kernel_rfl) ?_
       simp (disch:=((try simp only[LL]);omega)) only[↓GO,↓DRW,GA,GX,ren,zk,za,refs,z8,cst,zr,isC,bin,una,z7,zd,blt,asArg,zg,zc,zf,z6,E.mkS,unN,ze,zm,zb,GS,simprocAttr,GZ,h1,h2,h3,d1,d2,d3,hv,he,bne,hs0,Ver.zero,yM]
     · apply zx
       refine zy rfl Tryz.func45 rfl (by kernel_rfl) ?_
       unfold Tryz.f45
       simp (disch:=((try simp only[LL]);omega)) only[↓GO,↓DRW,GA,GX,ren,zk,za,refs,z8,cst,zr,isC,bin,una,z7,zd,blt,asArg,zg,zc,zf,z6,E.mkS,unN,ze,zm,zb,GS,simprocAttr,GZ,h1,h2,h3,d1,d2,d3,hv,he,bne,hs0,yM]
       refine zU (by kernel_rfl) ?_
       simp (disch:=((try simp only[LL]);omega)) only[↓GO,↓DRW,GA,GX,ren,zk,za,refs,z8,cst,zr,isC,bin,una,z7,zd,blt,asArg,zg,zc,zf,z6,E.mkS,unN,ze,zm,zb,GS,simprocAttr,GZ,h1,h2,h3,d1,d2,d3,hv,he,bne,hs0,yM]
 · have hm := lW hn
   rw[hm]
   have hc:(((xu 46 (yI 45 s).1).length:Int)==3)=false:=by rw[beq_eq_false_iff_ne];omega
   generalize xu 46 (yI 45 s).1=parts at *
   apply zx
   refine zy rfl Tryz.func45 rfl (by kernel_rfl) ?_
   unfold Tryz.f45
   simp (disch:=((try simp only[LL]);omega)) only[↓GO,↓DRW,GA,GX,ren,zk,za,refs,z8,cst,zr,isC,bin,una,z7,zd,blt,asArg,zg,zc,zf,z6,E.mkS,unN,ze,zm,zb,GS,simprocAttr,GZ,h1,h2,hc,bne,zi,Ver.zero,Ver.enc,yM]
theorem l_at (s:Str)(b:UInt8)(hl:s.length≤4194304):∀ (rest pre:Str),s=pre++rest →
 EV Tryz.prog pol (.loop 182 26 0 [.t (.str s),.t (.int .u8 (b.toNat:Int)),.t (.int .i64 (pre.length:Int))] [])=some (cond (yI b rest).2.2 (.loop .ret [.t (.int .i64 ((pre.length:Int)+((yI b rest).1.length:Int)))] []) (.loop (.exit 0) [.bad] []))
 | [],pre,hs=>by
  have c:decide ((pre.length:Int)<(s.length:Int))=false:=by simp[hs]
  refine zo Tryz.func182 rfl rfl ?_
  simp only[↓GO,↓DRW,GA,GX,ren,zk,za,refs,z8,cst,zr,isC,bin,una,z7,zd,blt,asArg,zg,zc,zf,z6,E.mkS,unN,ze,zm,zb,GS,simprocAttr,c,yI]
 | x :: rest, pre, hs => by
  have c:decide ((pre.length:Int)<(s.length:Int))=true:=by simp[hs];omega
  have hget:s[pre.length]? = some x:=by rw[hs];exact sT pre x rest
  have hlen:s.length=pre.length+rest.length+1:=by rw[hs];simp;omega
  have IH:=l_at s b hl rest (pre++[x]) (by rw[hs];simp)
  rw[show ((pre++[x]).length:Int)=(pre.length:Int)+1 by simp]at IH
  rw[yI]
  clear hs
  by_cases hx:x=b
  · subst hx
    rw[if_pos rfl]
    refine zo Tryz.func182 rfl rfl ?_
    simp (disch:=((try simp only[LL]);omega)) only[↓GO,↓DRW,GA,GX,ren,zk,za,refs,z8,cst,zr,isC,bin,una,z7,zd,blt,asArg,zg,zc,zf,z6,E.mkS,unN,ze,zm,zb,GS,simprocAttr,GZ,c,hget,zq,Int.natCast_zero,Int.add_zero]
  · have c2 : ((x.toNat : Int) == (b.toNat : Int)) = false := by
     rw[beq_eq_false_iff_ne];intro e;exact hx (UInt8.toNat_inj.1 (by omega))
    rw[if_neg hx]
    rw[show (((x::(yI b rest).1).length:Nat):Int)=((yI b rest).1.length:Int)+1 by simp,show (pre.length:Int)+(((yI b rest).1.length:Int)+1)=(pre.length:Int)+1+((yI b rest).1.length:Int) by omega]
    refine zo Tryz.func182 rfl rfl ?_
    simp (disch:=((try simp only[LL]);omega)) only[↓GO,↓DRW,GA,GX,ren,zk,za,refs,z8,cst,zr,isC,bin,una,z7,zd,blt,asArg,zg,zc,zf,z6,E.mkS,unN,ze,zm,zb,GS,simprocAttr,GZ,c,hget,zq,c2,IH]
def atV (b:UInt8)(s:Str):Int:=cond (yI b s).2.2 ((yI b s).1.length:Int) (-1)
theorem c_at (s:Str)(b:UInt8)(hl:s.length≤4194304):zu (EV Tryz.prog pol) 182 [.t (.str s),.t (.int .u8 (b.toNat:Int))]=some (.t (.int .i64 (atV b s))):=by
 have IH:=l_at s b hl s [] rfl
 simp only[List.length_nil,Int.natCast_zero,Int.zero_add]at IH
 unfold atV
 apply zx
 refine zy rfl Tryz.func182 rfl (by kernel_rfl) ?_
 unfold Tryz.f182
 cases h:(yI b s).2.2<;>rw[h]at IH<;>simp only[cond_true,cond_false]at IH<;>simp (disch:=((try simp only[LL]);omega)) only[↓GO,↓DRW,GA,GX,ren,zk,za,refs,z8,cst,zr,isC,bin,una,z7,zd,blt,asArg,zg,zc,zf,z6,E.mkS,unN,ze,zm,zb,GS,simprocAttr,GZ,IH]
theorem N4 (s:Str)(hl:s.length≤1048700):zu (EV Tryz.prog pol) 122 [.t (.str s)]=some (rvT s):=by
 have h1:=c_at s 45 (by omega)
 rw[show (((45:UInt8)).toNat:Int)=45 from rfl]at h1
 have hl1:=oG 45 s
 have h2:=Yw (yI 45 s).1 46 (by omega)
 have h3:=Yw (yI 45 s).2.1 46 (by omega)
 rw[show (((46:UInt8)).toNat:Int)=46 from rfl]at h2 h3
 have hce:=lk 45 s
 unfold rvT y5
 unfold atV at h1
 have hA:(yI 45 s).2.2=false→(yI 45 s).1=s:=fun h=>by rw[h,cond_false,List.append_nil]at hce;exact hce.symm
 have hB:(yI 45 s).2.2=true→s.take (yI 45 s).1.length=(yI 45 s).1∧s.drop ((yI 45 s).1.length+1)=(yI 45 s).2.1∧(yI 45 s).1.length+1≤s.length:=fun h=>by
  rw[h,cond_true]at hce
  have e1:s.take (yI 45 s).1.length=(yI 45 s).1:=by
   conv=>lhs;arg 2;rw[hce]
   exact List.take_left
  have e2:s.drop ((yI 45 s).1.length+1)=(yI 45 s).2.1:=by
   conv=>lhs;arg 2;rw[hce]
   rw[← List.drop_drop,List.drop_left];rfl
  refine⟨e1,e2,?_⟩
  have:=congrArg List.length hce
  rw[List.length_append,List.length_cons]at this
  omega
 clear hce
 by_cases hn:(xu 46 (yI 45 s).1).length=3
 · obtain ⟨a, b, c, hp⟩ : ∃ a b c, xu 46 (yI 45 s).1 = [a, b, c] := by
    match hq:xu 46 (yI 45 s).1,hn with
    | [a,b,c],_=>exact⟨a,b,c,rfl⟩
   have hm:ub s=some ⟨zT a,zT b,zT c,cond (yI 45 s).2.2 (xu 46 (yI 45 s).2.1) []⟩:=by unfold ub;rw[hp]
   have hsm:=(kS hm hl).1
   have hbk:=u5 46 (yI 45 s).1
   rw[hp]at h2 hbk
   simp only[yg]at hbk
   have d1:=fF a (by omega)
   have d2:=fF b (by omega)
   have d3:=fF c (by omega)
   have hv:=ja _ hsm
   rw[hm]
   simp only[Ver.enc,List.map_cons,List.map_nil,uI,yM]at hv h2 ⊢
   generalize zT a=ra at *
   generalize zT b=rb at *
   generalize zT c=rc at *
   cases hh:(yI 45 s).2.2<;>rw[hh]at h1 hv<;>simp only[cond_true,cond_false,yM]at hv h1 ⊢
   · have hA' := hA hh
     rw[hA']at h2
     generalize yl ⟨ra,rb,rc,[]⟩=tt at *
     clear hm hsm hA hB hp
     cases he:(tt==s)
     · apply zx
       refine zy rfl Tryz.func122 rfl (by kernel_rfl) ?_
       unfold Tryz.f122
       simp (disch:=((try simp only[LL]);omega)) only[↓GO,↓DRW,GA,GX,ren,zk,za,refs,z8,cst,zr,isC,bin,una,z7,zd,blt,asArg,zg,zc,zf,z6,E.mkS,unN,ze,zm,zb,GS,simprocAttr,GZ,h1,h2,d1,d2,d3,hv,he,bne,ge_iff_le,Ver.zero,yM]
     · apply zx
       refine zy rfl Tryz.func122 rfl (by kernel_rfl) ?_
       unfold Tryz.f122
       simp (disch:=((try simp only[LL]);omega)) only[↓GO,↓DRW,GA,GX,ren,zk,za,refs,z8,cst,zr,isC,bin,una,z7,zd,blt,asArg,zg,zc,zf,z6,E.mkS,unN,ze,zm,zb,GS,simprocAttr,GZ,h1,h2,d1,d2,d3,hv,he,bne,ge_iff_le,yM]
   · obtain ⟨b1, b2, b3⟩ := hB hh
     generalize yl ⟨ra,rb,rc,xu 46 (yI 45 s).2.1⟩=tt at *
     clear hm hsm hA hB hp
     generalize xu 46 (yI 45 s).2.1=pp at *
     have g0:decide ((0:Int)≤((yI 45 s).1.length:Int))=true:=by simp
     generalize (yI 45 s).2.1=tl at *
     generalize (yI 45 s).1=hd at *
     cases he:(tt==s)
     · apply zx
       refine zy rfl Tryz.func122 rfl (by kernel_rfl) ?_
       unfold Tryz.f122
       simp (disch:=((try simp only[LL]);omega)) only[↓GO,↓DRW,GA,GX,ren,zk,za,refs,z8,cst,zr,isC,bin,una,z7,zd,blt,asArg,zg,zc,zf,z6,E.mkS,unN,ze,zm,zb,GS,simprocAttr,GZ,h1,h2,h3,d1,d2,d3,hv,he,bne,ge_iff_le,g0,b1,b2,zq,Ver.zero,yM]
     · apply zx
       refine zy rfl Tryz.func122 rfl (by kernel_rfl) ?_
       unfold Tryz.f122
       simp (disch:=((try simp only[LL]);omega)) only[↓GO,↓DRW,GA,GX,ren,zk,za,refs,z8,cst,zr,isC,bin,una,z7,zd,blt,asArg,zg,zc,zf,z6,E.mkS,unN,ze,zm,zb,GS,simprocAttr,GZ,h1,h2,h3,d1,d2,d3,hv,he,bne,ge_iff_le,g0,b1,b2,zq]
 · have hm := lW hn
   rw[hm]
   have hc:(((xu 46 (yI 45 s).1).length:Int)==3)=false:=by rw[beq_eq_false_iff_ne];omega
   cases hh:(yI 45 s).2.2<;>rw[hh]at h1<;>simp only[cond_true,cond_false]at h1
   · have hA' := hA hh
     rw[hA']at h2 hc
     generalize xu 46 s=parts at *
     apply zx
     refine zy rfl Tryz.func122 rfl (by kernel_rfl) ?_
     unfold Tryz.f122
     simp (disch:=((try simp only[LL]);omega)) only[↓GO,↓DRW,GA,GX,ren,zk,za,refs,z8,cst,zr,isC,bin,una,z7,zd,blt,asArg,zg,zc,zf,z6,E.mkS,unN,ze,zm,zb,GS,simprocAttr,GZ,h1,h2,hc,bne,ge_iff_le,zi,Ver.zero,Ver.enc,yM]
   · obtain ⟨b1, b2, b3⟩ := hB hh
     have g0:decide ((0:Int)≤((yI 45 s).1.length:Int))=true:=by simp
     generalize xu 46 (yI 45 s).1=parts at *
     generalize xu 46 (yI 45 s).2.1=pp at *
     generalize (yI 45 s).2.1=tl at *
     generalize (yI 45 s).1=hd at *
     apply zx
     refine zy rfl Tryz.func122 rfl (by kernel_rfl) ?_
     unfold Tryz.f122
     simp (disch:=((try simp only[LL]);omega)) only[↓GO,↓DRW,GA,GX,ren,zk,za,refs,z8,cst,zr,isC,bin,una,z7,zd,blt,asArg,zg,zc,zf,z6,E.mkS,unN,ze,zm,zb,GS,simprocAttr,GZ,h1,h2,h3,hc,bne,ge_iff_le,g0,b1,b2,zq,zi,Ver.zero,Ver.enc,yM]
def smV (v:Ver):Prop:=v.pre.length≤6∧∀ s∈v.pre,s.length≤32
def VerR (bs:List Int)(c:Cs)(v:Ver)(c':Cs):Prop :=
 (v.pre=[]∧EV Tryz.prog pol (.callO false 161 [.ptr 0 0 0] [cuR bs c])=some (.call (.agg [.t (.int .i64 v.maj),.t (.int .i64 v.min),.t (.int .i64 v.pat),.nil 1]) [cuR bs c'])) ∨
 ∃ cap,EV Tryz.prog pol (.callO false 161 [.ptr 0 0 0] [cuR bs c])=some (.call (.agg [.t (.int .i64 v.maj),.t (.int .i64 v.min),.t (.int .i64 v.pat),.sl 1 0 v.pre.length cap]) [cuR bs c',.ts 1 (strs v.pre)])
set_option maxHeartbeats 16000000 in
theorem c_ver (bs:List Int)(hb:okB bs)(c:Cs)(hc:cok bs c):∃ (v:Ver) (c':Cs),smV v∧cok bs c'∧VerR bs c v c':=by
 obtain⟨a1,c1,_,h1,d1⟩:=sR bs hb c hc [0,1,1,2,10] 5 rfl (by decide) (by decide) (some 5)
 obtain⟨a2,c2,_,h2,d2⟩:=sR bs hb c1 h1 [0,0,1,2,12] 5 rfl (by decide) (by decide) (some 5)
 obtain⟨a3,c3,_,h3,d3⟩:=sR bs hb c2 h2 [0,0,1,3,9] 5 rfl (by decide) (by decide) (some 5)
 obtain⟨b1,c4,h4,d4⟩:=uA bs hb c3 h3 4 (by decide) (by decide)
 simp only[pJ,List.map_cons,List.map_nil,Int.cast_ofNat_Int]at d1 d2 d3 d4
 cases b1 with
 | false =>
  obtain⟨k,y1,hk,hy1,e1⟩:=pM bs hb c4 h4 24 (by decide) (by decide)
  simp only[Int.cast_ofNat_Int]at e1
  have hkc:k=0∨k=1∨k=2∨3≤k:=by omega
  rcases hkc with rfl | rfl | rfl | hk3
  · obtain ⟨a, y2, _, hy2, e2⟩ := sR bs hb y1 hy1 [-1, 999999999, 1000000000] 3 rfl (by decide) (by decide) (some 3)
    simp only[pJ,List.map_cons,List.map_nil,Int.natCast_zero,Int.natCast_one]at e1 e2
    refine⟨⟨a1,a,a3,[]⟩,y2,⟨by simp,fun s hs=>?_⟩,hy2,?_⟩
    · simp only[List.mem_cons,List.not_mem_nil,or_false]at hs
    refine .inl ⟨rfl,?_⟩
    clear hb h1 h2 h3
    unfold cuR at *
    refine zH Tryz.func161 rfl (by kernel_rfl) ?_
    unfold Tryz.f161
    simp (disch:=((try simp only[LL]);omega)) only[↓GO,↓DRW,GA,GX,ren,zk,za,refs,z8,cst,zr,isC,bin,una,z7,zd,blt,asArg,zg,zc,zf,z6,E.mkS,unN,ze,zm,zb,GS,simprocAttr,GZ,d1,d2,d3,d4,e1,e2,zq,ya,zA]
    all_goals (repeat (refine zU (by kernel_rfl) ?_))
    all_goals (first | rfl | (simp (disch:=((try simp only[LL]);omega)) only[↓GO,↓DRW,GA,GX,ren,zk,za,refs,z8,cst,zr,isC,bin,una,z7,zd,blt,asArg,zg,zc,zf,z6,E.mkS,unN,ze,zm,zb,GS,simprocAttr,GZ,d1,d2,d3,d4,e1,e2,zq,ya,zA]))
  · obtain ⟨s, y2, hs0, hy2, e2⟩ := te bs hb y1 hy1 [[], [48, 49], [97, 95, 98], [49, 48, 48, 48, 48, 48, 48, 48, 48, 48], [97, 98, 99, 100, 101, 102, 103, 104, 105, 106, 107, 108, 109, 110, 111, 112, 113, 114, 115, 116], [97, 98, 99, 100, 101, 102, 103, 104, 105, 106, 107, 108, 109, 110, 111, 112, 113, 114, 115, 116, 117]] 6 rfl (by decide) (by decide) (some 6)
    have hsl:s.length≤32:=by
     simp only[List.mem_cons,List.not_mem_nil,or_false]at hs0
     rcases hs0 with rfl | rfl | rfl | rfl | rfl | rfl<;>decide
    clear hs0
    simp only[strs,List.map_cons,List.map_nil,Int.natCast_zero,Int.natCast_one]at e1 e2
    refine⟨⟨a1,a2,a3,[s]⟩,y2,⟨by simp,fun s hs=>?_⟩,hy2,?_⟩
    · simp only [List.mem_cons, List.not_mem_nil, or_false] at hs
      rcases hs with rfl<;>first | assumption | decide
    refine .inr ⟨none,?_⟩
    simp only[strs,List.map_cons,List.map_nil,List.length_cons,List.length_nil,Nat.zero_add,Nat.reduceAdd]at *
    clear hb h1 h2 h3
    unfold cuR at *
    refine zH Tryz.func161 rfl (by kernel_rfl) ?_
    unfold Tryz.f161
    simp (disch:=((try simp only[LL]);omega)) only[↓GO,↓DRW,GA,GX,ren,zk,za,refs,z8,cst,zr,isC,bin,una,z7,zd,blt,asArg,zg,zc,zf,z6,E.mkS,unN,ze,zm,zb,GS,simprocAttr,GZ,d1,d2,d3,d4,e1,e2,zq,ya,zA]
    all_goals (repeat (refine zU (by kernel_rfl) ?_))
    all_goals (first | rfl | (simp (disch:=((try simp only[LL]);omega)) only[↓GO,↓DRW,GA,GX,ren,zk,za,refs,z8,cst,zr,isC,bin,una,z7,zd,blt,asArg,zg,zc,zf,z6,E.mkS,unN,ze,zm,zb,GS,simprocAttr,GZ,d1,d2,d3,d4,e1,e2,zq,ya,zA]))
  · obtain ⟨b, y2, hy2, e2⟩ := uA bs hb y1 hy1 2 (by decide) (by decide)
    simp only[Int.cast_ofNat_Int]at e1 e2
    cases b with
    | false =>
     refine⟨⟨a1,a2,a3,[[97],[98],[99],[100],[101]]⟩,y2,⟨by simp,fun s hs=>?_⟩,hy2,?_⟩
     · simp only [List.mem_cons, List.not_mem_nil, or_false] at hs
       rcases hs with rfl | rfl | rfl | rfl | rfl<;>first | assumption | decide
     refine .inr ⟨some 5,?_⟩
     simp only[strs,List.map_cons,List.map_nil,List.length_cons,List.length_nil,Nat.zero_add,Nat.reduceAdd]at *
     clear hb h1 h2 h3
     unfold cuR at *
     refine zH Tryz.func161 rfl (by kernel_rfl) ?_
     unfold Tryz.f161
     simp (disch:=((try simp only[LL]);omega)) only[↓GO,↓DRW,GA,GX,ren,zk,za,refs,z8,cst,zr,isC,bin,una,z7,zd,blt,asArg,zg,zc,zf,z6,E.mkS,unN,ze,zm,zb,GS,simprocAttr,GZ,d1,d2,d3,d4,e1,e2,zq,ya,zA]
     all_goals (repeat (refine zU (by kernel_rfl) ?_))
     all_goals (first | rfl | (simp (disch:=((try simp only[LL]);omega)) only[↓GO,↓DRW,GA,GX,ren,zk,za,refs,z8,cst,zr,isC,bin,una,z7,zd,blt,asArg,zg,zc,zf,z6,E.mkS,unN,ze,zm,zb,GS,simprocAttr,GZ,d1,d2,d3,d4,e1,e2,zq,ya,zA]))
    | true =>
     refine⟨⟨a1,a2,a3,[[97],[98],[99],[100],[101],[102]]⟩,y2,⟨by simp,fun s hs=>?_⟩,hy2,?_⟩
     · simp only [List.mem_cons, List.not_mem_nil, or_false] at hs
       rcases hs with rfl | rfl | rfl | rfl | rfl | rfl<;>first | assumption | decide
     refine .inr ⟨none,?_⟩
     simp only[strs,List.map_cons,List.map_nil,List.length_cons,List.length_nil,Nat.zero_add,Nat.reduceAdd]at *
     clear hb h1 h2 h3
     unfold cuR at *
     refine zH Tryz.func161 rfl (by kernel_rfl) ?_
     unfold Tryz.f161
     simp (disch:=((try simp only[LL]);omega)) only[↓GO,↓DRW,GA,GX,ren,zk,za,refs,z8,cst,zr,isC,bin,una,z7,zd,blt,asArg,zg,zc,zf,z6,E.mkS,unN,ze,zm,zb,GS,simprocAttr,GZ,d1,d2,d3,d4,e1,e2,zq,ya,zA]
     all_goals (repeat (refine zU (by kernel_rfl) ?_))
     all_goals (first | rfl | (simp (disch:=((try simp only[LL]);omega)) only[↓GO,↓DRW,GA,GX,ren,zk,za,refs,z8,cst,zr,isC,bin,una,z7,zd,blt,asArg,zg,zc,zf,z6,E.mkS,unN,ze,zm,zb,GS,simprocAttr,GZ,d1,d2,d3,d4,e1,e2,zq,ya,zA]))
  · have k0 : ((k : Int) == 0) = false := by rw [beq_eq_false_iff_ne]; omega
    have k1:((k:Int)==1)=false:=by rw[beq_eq_false_iff_ne];omega
    have k2:((k:Int)==2)=false:=by rw[beq_eq_false_iff_ne];omega
    refine⟨⟨a1,a2,a3,[]⟩,y1,⟨by simp,fun s hs=>?_⟩,hy1,?_⟩
    · simp only[List.mem_cons,List.not_mem_nil,or_false]at hs
    refine .inl ⟨rfl,?_⟩
    clear hb h1 h2 h3
    unfold cuR at *
    refine zH Tryz.func161 rfl (by kernel_rfl) ?_
    unfold Tryz.f161
    simp (disch:=((try simp only[LL]);omega)) only[↓GO,↓DRW,GA,GX,ren,zk,za,refs,z8,cst,zr,isC,bin,una,z7,zd,blt,asArg,zg,zc,zf,z6,E.mkS,unN,ze,zm,zb,GS,simprocAttr,GZ,d1,d2,d3,d4,e1,k0,k1,k2,zq,ya,zA]
    all_goals (repeat (refine zU (by kernel_rfl) ?_))
    all_goals (first | rfl | (simp (disch:=((try simp only[LL]);omega)) only[↓GO,↓DRW,GA,GX,ren,zk,za,refs,z8,cst,zr,isC,bin,una,z7,zd,blt,asArg,zg,zc,zf,z6,E.mkS,unN,ze,zm,zb,GS,simprocAttr,GZ,d1,d2,d3,d4,e1,k0,k1,k2,zq,ya,zA]))
 | true =>
  obtain⟨s1,c5,hs1,h5,d5⟩:=te bs hb c4 h4 [[114,99],[98,101,116,97],[49],[48],[120,45,121]] 5 rfl (by decide) (by decide) (some 5)
  have hl1:s1.length≤32:=by
   simp only[List.mem_cons,List.not_mem_nil,or_false]at hs1
   rcases hs1 with rfl | rfl | rfl | rfl | rfl<;>decide
  clear hs1
  obtain⟨b2,c6,h6,d6⟩:=uA bs hb c5 h5 2 (by decide) (by decide)
  simp only[strs,List.map_cons,List.map_nil,Int.cast_ofNat_Int]at d5 d6
  cases b2 with
  | false =>
   obtain⟨k,y1,hk,hy1,e1⟩:=pM bs hb c6 h6 24 (by decide) (by decide)
   simp only[Int.cast_ofNat_Int]at e1
   have hkc:k=0∨k=1∨k=2∨3≤k:=by omega
   rcases hkc with rfl | rfl | rfl | hk3
   · obtain ⟨a, y2, _, hy2, e2⟩ := sR bs hb y1 hy1 [-1, 999999999, 1000000000] 3 rfl (by decide) (by decide) (some 3)
     simp only[pJ,List.map_cons,List.map_nil,Int.natCast_zero,Int.natCast_one]at e1 e2
     refine⟨⟨a1,a,a3,[s1]⟩,y2,⟨by simp,fun s hs=>?_⟩,hy2,?_⟩
     · simp only [List.mem_cons, List.not_mem_nil, or_false] at hs
       rcases hs with rfl<;>first | assumption | decide
     refine .inr ⟨some 1,?_⟩
     simp only[strs,List.map_cons,List.map_nil,List.length_cons,List.length_nil,Nat.zero_add,Nat.reduceAdd]at *
     clear hb h1 h2 h3 h4 h5
     unfold cuR at *
     refine zH Tryz.func161 rfl (by kernel_rfl) ?_
     unfold Tryz.f161
     simp (disch:=((try simp only[LL]);omega)) only[↓GO,↓DRW,GA,GX,ren,zk,za,refs,z8,cst,zr,isC,bin,una,z7,zd,blt,asArg,zg,zc,zf,z6,E.mkS,unN,ze,zm,zb,GS,simprocAttr,GZ,d1,d2,d3,d4,d5,d6,e1,e2,zq,ya,zA]
     all_goals (repeat (refine zU (by kernel_rfl) ?_))
     all_goals (first | rfl | (simp (disch:=((try simp only[LL]);omega)) only[↓GO,↓DRW,GA,GX,ren,zk,za,refs,z8,cst,zr,isC,bin,una,z7,zd,blt,asArg,zg,zc,zf,z6,E.mkS,unN,ze,zm,zb,GS,simprocAttr,GZ,d1,d2,d3,d4,d5,d6,e1,e2,zq,ya,zA]))
   · obtain ⟨s, y2, hs0, hy2, e2⟩ := te bs hb y1 hy1 [[], [48, 49], [97, 95, 98], [49, 48, 48, 48, 48, 48, 48, 48, 48, 48], [97, 98, 99, 100, 101, 102, 103, 104, 105, 106, 107, 108, 109, 110, 111, 112, 113, 114, 115, 116], [97, 98, 99, 100, 101, 102, 103, 104, 105, 106, 107, 108, 109, 110, 111, 112, 113, 114, 115, 116, 117]] 6 rfl (by decide) (by decide) (some 6)
     have hsl:s.length≤32:=by
      simp only[List.mem_cons,List.not_mem_nil,or_false]at hs0
      rcases hs0 with rfl | rfl | rfl | rfl | rfl | rfl<;>decide
     clear hs0
     simp only[strs,List.map_cons,List.map_nil,Int.natCast_zero,Int.natCast_one]at e1 e2
     refine⟨⟨a1,a2,a3,[s1,s]⟩,y2,⟨by simp,fun s hs=>?_⟩,hy2,?_⟩
     · simp only [List.mem_cons, List.not_mem_nil, or_false] at hs
       rcases hs with rfl | rfl<;>first | assumption | decide
     refine .inr ⟨none,?_⟩
     simp only[strs,List.map_cons,List.map_nil,List.length_cons,List.length_nil,Nat.zero_add,Nat.reduceAdd]at *
     clear hb h1 h2 h3 h4 h5
     unfold cuR at *
     refine zH Tryz.func161 rfl (by kernel_rfl) ?_
     unfold Tryz.f161
     simp (disch:=((try simp only[LL]);omega)) only[↓GO,↓DRW,GA,GX,ren,zk,za,refs,z8,cst,zr,isC,bin,una,z7,zd,blt,asArg,zg,zc,zf,z6,E.mkS,unN,ze,zm,zb,GS,simprocAttr,GZ,d1,d2,d3,d4,d5,d6,e1,e2,zq,ya,zA]
     all_goals (repeat (refine zU (by kernel_rfl) ?_))
     all_goals (first | rfl | (simp (disch:=((try simp only[LL]);omega)) only[↓GO,↓DRW,GA,GX,ren,zk,za,refs,z8,cst,zr,isC,bin,una,z7,zd,blt,asArg,zg,zc,zf,z6,E.mkS,unN,ze,zm,zb,GS,simprocAttr,GZ,d1,d2,d3,d4,d5,d6,e1,e2,zq,ya,zA]))
   · obtain ⟨b, y2, hy2, e2⟩ := uA bs hb y1 hy1 2 (by decide) (by decide)
     simp only[Int.cast_ofNat_Int]at e1 e2
     cases b with
     | false =>
      refine⟨⟨a1,a2,a3,[[97],[98],[99],[100],[101]]⟩,y2,⟨by simp,fun s hs=>?_⟩,hy2,?_⟩
      · simp only [List.mem_cons, List.not_mem_nil, or_false] at hs
        rcases hs with rfl | rfl | rfl | rfl | rfl<;>first | assumption | decide
      refine .inr ⟨some 5,?_⟩
      simp only[strs,List.map_cons,List.map_nil,List.length_cons,List.length_nil,Nat.zero_add,Nat.reduceAdd]at *
      clear hb h1 h2 h3 h4 h5
      unfold cuR at *
      refine zH Tryz.func161 rfl (by kernel_rfl) ?_
      unfold Tryz.f161
      simp (disch:=((try simp only[LL]);omega)) only[↓GO,↓DRW,GA,GX,ren,zk,za,refs,z8,cst,zr,isC,bin,una,z7,zd,blt,asArg,zg,zc,zf,z6,E.mkS,unN,ze,zm,zb,GS,simprocAttr,GZ,d1,d2,d3,d4,d5,d6,e1,e2,zq,ya,zA]
      all_goals (repeat (refine zU (by kernel_rfl) ?_))
      all_goals (first | rfl | (simp (disch:=((try simp only[LL]);omega)) only[↓GO,↓DRW,GA,GX,ren,zk,za,refs,z8,cst,zr,isC,bin,una,z7,zd,blt,asArg,zg,zc,zf,z6,E.mkS,unN,ze,zm,zb,GS,simprocAttr,GZ,d1,d2,d3,d4,d5,d6,e1,e2,zq,ya,zA]))
     | true =>
      refine⟨⟨a1,a2,a3,[[97],[98],[99],[100],[101],[102]]⟩,y2,⟨by simp,fun s hs=>?_⟩,hy2,?_⟩
      · simp only [List.mem_cons, List.not_mem_nil, or_false] at hs
        rcases hs with rfl | rfl | rfl | rfl | rfl | rfl<;>first | assumption | decide
      refine .inr ⟨none,?_⟩
      simp only[strs,List.map_cons,List.map_nil,List.length_cons,List.length_nil,Nat.zero_add,Nat.reduceAdd]at *
      clear hb h1 h2 h3 h4 h5
      unfold cuR at *
      refine zH Tryz.func161 rfl (by kernel_rfl) ?_
      unfold Tryz.f161
      simp (disch:=((try simp only[LL]);omega)) only[↓GO,↓DRW,GA,GX,ren,zk,za,refs,z8,cst,zr,isC,bin,una,z7,zd,blt,asArg,zg,zc,zf,z6,E.mkS,unN,ze,zm,zb,GS,simprocAttr,GZ,d1,d2,d3,d4,d5,d6,e1,e2,zq,ya,zA]
      all_goals (repeat (refine zU (by kernel_rfl) ?_))
      all_goals (first | rfl | (simp (disch:=((try simp only[LL]);omega)) only[↓GO,↓DRW,GA,GX,ren,zk,za,refs,z8,cst,zr,isC,bin,una,z7,zd,blt,asArg,zg,zc,zf,z6,E.mkS,unN,ze,zm,zb,GS,simprocAttr,GZ,d1,d2,d3,d4,d5,d6,e1,e2,zq,ya,zA]))
   · have k0 : ((k : Int) == 0) = false := by rw [beq_eq_false_iff_ne]; omega
     have k1:((k:Int)==1)=false:=by rw[beq_eq_false_iff_ne];omega
     have k2:((k:Int)==2)=false:=by rw[beq_eq_false_iff_ne];omega
     refine⟨⟨a1,a2,a3,[s1]⟩,y1,⟨by simp,fun s hs=>?_⟩,hy1,?_⟩
     · simp only [List.mem_cons, List.not_mem_nil, or_false] at hs
       rcases hs with rfl<;>first | assumption | decide
     refine .inr ⟨some 1,?_⟩
     simp only[strs,List.map_cons,List.map_nil,List.length_cons,List.length_nil,Nat.zero_add,Nat.reduceAdd]at *
     clear hb h1 h2 h3 h4 h5
     unfold cuR at *
     refine zH Tryz.func161 rfl (by kernel_rfl) ?_
     unfold Tryz.f161
     simp (disch:=((try simp only[LL]);omega)) only[↓GO,↓DRW,GA,GX,ren,zk,za,refs,z8,cst,zr,isC,bin,una,z7,zd,blt,asArg,zg,zc,zf,z6,E.mkS,unN,ze,zm,zb,GS,simprocAttr,GZ,d1,d2,d3,d4,d5,d6,e1,k0,k1,k2,zq,ya,zA]
     all_goals (repeat (refine zU (by kernel_rfl) ?_))
     all_goals (first | rfl | (simp (disch:=((try simp only[LL]);omega)) only[↓GO,↓DRW,GA,GX,ren,zk,za,refs,z8,cst,zr,isC,bin,una,z7,zd,blt,asArg,zg,zc,zf,z6,E.mkS,unN,ze,zm,zb,GS,simprocAttr,GZ,d1,d2,d3,d4,d5,d6,e1,k0,k1,k2,zq,ya,zA]))
  | true =>
   obtain⟨s2,c7,hs2,h7,d7⟩:=te bs hb c6 h6 [[49],[50],[49,48],[97]] 4 rfl (by decide) (by decide) (some 4)
   have hl2:s2.length≤32:=by
    simp only[List.mem_cons,List.not_mem_nil,or_false]at hs2
    rcases hs2 with rfl | rfl | rfl | rfl<;>decide
   clear hs2
   simp only[strs,List.map_cons,List.map_nil]at d7
   obtain⟨k,y1,hk,hy1,e1⟩:=pM bs hb c7 h7 24 (by decide) (by decide)
   simp only[Int.cast_ofNat_Int]at e1
   have hkc:k=0∨k=1∨k=2∨3≤k:=by omega
   rcases hkc with rfl | rfl | rfl | hk3
   · obtain ⟨a, y2, _, hy2, e2⟩ := sR bs hb y1 hy1 [-1, 999999999, 1000000000] 3 rfl (by decide) (by decide) (some 3)
     simp only[pJ,List.map_cons,List.map_nil,Int.natCast_zero,Int.natCast_one]at e1 e2
     refine⟨⟨a1,a,a3,[s1,s2]⟩,y2,⟨by simp,fun s hs=>?_⟩,hy2,?_⟩
     · simp only [List.mem_cons, List.not_mem_nil, or_false] at hs
       rcases hs with rfl | rfl<;>first | assumption | decide
     refine .inr ⟨none,?_⟩
     simp only[strs,List.map_cons,List.map_nil,List.length_cons,List.length_nil,Nat.zero_add,Nat.reduceAdd]at *
     clear hb h1 h2 h3 h4 h5 h6
     unfold cuR at *
     refine zH Tryz.func161 rfl (by kernel_rfl) ?_
     unfold Tryz.f161
     simp (disch:=((try simp only[LL]);omega)) only[↓GO,↓DRW,GA,GX,ren,zk,za,refs,z8,cst,zr,isC,bin,una,z7,zd,blt,asArg,zg,zc,zf,z6,E.mkS,unN,ze,zm,zb,GS,simprocAttr,GZ,d1,d2,d3,d4,d5,d6,d7,e1,e2,zq,ya,zA]
     all_goals (repeat (refine zU (by kernel_rfl) ?_))
     all_goals (first | rfl | (simp (disch:=((try simp only[LL]);omega)) only[↓GO,↓DRW,GA,GX,ren,zk,za,refs,z8,cst,zr,isC,bin,una,z7,zd,blt,asArg,zg,zc,zf,z6,E.mkS,unN,ze,zm,zb,GS,simprocAttr,GZ,d1,d2,d3,d4,d5,d6,d7,e1,e2,zq,ya,zA]))
   · obtain ⟨s, y2, hs0, hy2, e2⟩ := te bs hb y1 hy1 [[], [48, 49], [97, 95, 98], [49, 48, 48, 48, 48, 48, 48, 48, 48, 48], [97, 98, 99, 100, 101, 102, 103, 104, 105, 106, 107, 108, 109, 110, 111, 112, 113, 114, 115, 116], [97, 98, 99, 100, 101, 102, 103, 104, 105, 106, 107, 108, 109, 110, 111, 112, 113, 114, 115, 116, 117]] 6 rfl (by decide) (by decide) (some 6)
     have hsl:s.length≤32:=by
      simp only[List.mem_cons,List.not_mem_nil,or_false]at hs0
      rcases hs0 with rfl | rfl | rfl | rfl | rfl | rfl<;>decide
     clear hs0
     simp only[strs,List.map_cons,List.map_nil,Int.natCast_zero,Int.natCast_one]at e1 e2
     refine⟨⟨a1,a2,a3,[s1,s2,s]⟩,y2,⟨by simp,fun s hs=>?_⟩,hy2,?_⟩
     · simp only [List.mem_cons, List.not_mem_nil, or_false] at hs
       rcases hs with rfl | rfl | rfl<;>first | assumption | decide
     refine .inr ⟨none,?_⟩
     simp only[strs,List.map_cons,List.map_nil,List.length_cons,List.length_nil,Nat.zero_add,Nat.reduceAdd]at *
     clear hb h1 h2 h3 h4 h5 h6
     unfold cuR at *
     refine zH Tryz.func161 rfl (by kernel_rfl) ?_
     unfold Tryz.f161
     simp (disch:=((try simp only[LL]);omega)) only[↓GO,↓DRW,GA,GX,ren,zk,za,refs,z8,cst,zr,isC,bin,una,z7,zd,blt,asArg,zg,zc,zf,z6,E.mkS,unN,ze,zm,zb,GS,simprocAttr,GZ,d1,d2,d3,d4,d5,d6,d7,e1,e2,zq,ya,zA]
     all_goals (repeat (refine zU (by kernel_rfl) ?_))
     all_goals (first | rfl | (simp (disch:=((try simp only[LL]);omega)) only[↓GO,↓DRW,GA,GX,ren,zk,za,refs,z8,cst,zr,isC,bin,una,z7,zd,blt,asArg,zg,zc,zf,z6,E.mkS,unN,ze,zm,zb,GS,simprocAttr,GZ,d1,d2,d3,d4,d5,d6,d7,e1,e2,zq,ya,zA]))
   · obtain ⟨b, y2, hy2, e2⟩ := uA bs hb y1 hy1 2 (by decide) (by decide)
     simp only[Int.cast_ofNat_Int]at e1 e2
     cases b with
     | false =>
      refine⟨⟨a1,a2,a3,[[97],[98],[99],[100],[101]]⟩,y2,⟨by simp,fun s hs=>?_⟩,hy2,?_⟩
      · simp only [List.mem_cons, List.not_mem_nil, or_false] at hs
        rcases hs with rfl | rfl | rfl | rfl | rfl<;>first | assumption | decide
      refine .inr ⟨some 5,?_⟩
      simp only[strs,List.map_cons,List.map_nil,List.length_cons,List.length_nil,Nat.zero_add,Nat.reduceAdd]at *
      clear hb h1 h2 h3 h4 h5 h6
      unfold cuR at *
      refine zH Tryz.func161 rfl (by kernel_rfl) ?_
      unfold Tryz.f161
      simp (disch:=((try simp only[LL]);omega)) only[↓GO,↓DRW,GA,GX,ren,zk,za,refs,z8,cst,zr,isC,bin,una,z7,zd,blt,asArg,zg,zc,zf,z6,E.mkS,unN,ze,zm,zb,GS,simprocAttr,GZ,d1,d2,d3,d4,d5,d6,d7,e1,e2,zq,ya,zA]
      all_goals (repeat (refine zU (by kernel_rfl) ?_))
      all_goals (first | rfl | (simp (disch:=((try simp only[LL]);omega)) only[↓GO,↓DRW,GA,GX,ren,zk,za,refs,z8,cst,zr,isC,bin,una,z7,zd,blt,asArg,zg,zc,zf,z6,E.mkS,unN,ze,zm,zb,GS,simprocAttr,GZ,d1,d2,d3,d4,d5,d6,d7,e1,e2,zq,ya,zA]))
     | true =>
      refine⟨⟨a1,a2,a3,[[97],[98],[99],[100],[101],[102]]⟩,y2,⟨by simp,fun s hs=>?_⟩,hy2,?_⟩
      · simp only [List.mem_cons, List.not_mem_nil, or_false] at hs
        rcases hs with rfl | rfl | rfl | rfl | rfl | rfl<;>first | assumption | decide
      refine .inr ⟨none,?_⟩
      simp only[strs,List.map_cons,List.map_nil,List.length_cons,List.length_nil,Nat.zero_add,Nat.reduceAdd]at *
      clear hb h1 h2 h3 h4 h5 h6
      unfold cuR at *
      refine zH Tryz.func161 rfl (by kernel_rfl) ?_
      unfold Tryz.f161
      simp (disch:=((try simp only[LL]);omega)) only[↓GO,↓DRW,GA,GX,ren,zk,za,refs,z8,cst,zr,isC,bin,una,z7,zd,blt,asArg,zg,zc,zf,z6,E.mkS,unN,ze,zm,zb,GS,simprocAttr,GZ,d1,d2,d3,d4,d5,d6,d7,e1,e2,zq,ya,zA]
      all_goals (repeat (refine zU (by kernel_rfl) ?_))
      all_goals (first | rfl | (simp (disch:=((try simp only[LL]);omega)) only[↓GO,↓DRW,GA,GX,ren,zk,za,refs,z8,cst,zr,isC,bin,una,z7,zd,blt,asArg,zg,zc,zf,z6,E.mkS,unN,ze,zm,zb,GS,simprocAttr,GZ,d1,d2,d3,d4,d5,d6,d7,e1,e2,zq,ya,zA]))
   · have k0 : ((k : Int) == 0) = false := by rw [beq_eq_false_iff_ne]; omega
     have k1:((k:Int)==1)=false:=by rw[beq_eq_false_iff_ne];omega
     have k2:((k:Int)==2)=false:=by rw[beq_eq_false_iff_ne];omega
     refine⟨⟨a1,a2,a3,[s1,s2]⟩,y1,⟨by simp,fun s hs=>?_⟩,hy1,?_⟩
     · simp only [List.mem_cons, List.not_mem_nil, or_false] at hs
       rcases hs with rfl | rfl<;>first | assumption | decide
     refine .inr ⟨none,?_⟩
     simp only[strs,List.map_cons,List.map_nil,List.length_cons,List.length_nil,Nat.zero_add,Nat.reduceAdd]at *
     clear hb h1 h2 h3 h4 h5 h6
     unfold cuR at *
     refine zH Tryz.func161 rfl (by kernel_rfl) ?_
     unfold Tryz.f161
     simp (disch:=((try simp only[LL]);omega)) only[↓GO,↓DRW,GA,GX,ren,zk,za,refs,z8,cst,zr,isC,bin,una,z7,zd,blt,asArg,zg,zc,zf,z6,E.mkS,unN,ze,zm,zb,GS,simprocAttr,GZ,d1,d2,d3,d4,d5,d6,d7,e1,k0,k1,k2,zq,ya,zA]
     all_goals (repeat (refine zU (by kernel_rfl) ?_))
     all_goals (first | rfl | (simp (disch:=((try simp only[LL]);omega)) only[↓GO,↓DRW,GA,GX,ren,zk,za,refs,z8,cst,zr,isC,bin,una,z7,zd,blt,asArg,zg,zc,zf,z6,E.mkS,unN,ze,zm,zb,GS,simprocAttr,GZ,d1,d2,d3,d4,d5,d6,d7,e1,k0,k1,k2,zq,ya,zA]))
theorem Nu {v:Ver}(h:smV v):v.sm:=by
 obtain⟨h1,h2⟩:=h
 have key:∀ l:List Str,(∀ s∈l,s.length≤32)→yg l≤32*l.length:=fun l=>by
  induction l with
  | nil=>intro _;exact Nat.le_refl _
  | cons x r ih =>
   intro hx
   have a:=ih fun s hs=>hx s (by simp[hs])
   have b:=hx x (by simp)
   have e:yg (x::r)=x.length+yg r:=rfl
   rw[e,List.length_cons];omega
 have:=key v.pre h2
 unfold Ver.sm
 omega
theorem eV {v:Ver}(h:smV v):(yl v).length≤300:=by
 unfold yl
 cases hv:xr v with
 | false=>simp
 | true =>
  rw[cond_true]
  have a:=ai hv
  have b:=jV (tm v) v.pre
  obtain⟨h1,h2⟩:=h
  have key:∀ l:List Str,(∀ s∈l,s.length≤32)→yg l≤32*l.length:=fun l=>by
   induction l with
   | nil=>intro _;exact Nat.le_refl _
   | cons x r ih =>
    intro hx
    have a:=ih fun s hs=>hx s (by simp[hs])
    have b:=hx x (by simp)
    have e:yg (x::r)=x.length+yg r:=rfl
    rw[e,List.length_cons];omega
  have:=key v.pre h2
  omega
theorem PR (bs:List Int)(hb:okB bs)(c:Cs)(hc:cok bs c):∃ (s:Str) (c':Cs),s.length≤300∧cok bs c'∧EV Tryz.prog pol (.callO false 96 [.ptr 0 0 0] [cuR bs c])=some (.call (.t (.str s)) [cuR bs c']):=by
 obtain⟨v,c',hv,hc',d⟩:=c_ver bs hb c hc
 have d2:=ja v (Nu hv)
 have hl:=eV hv
 refine⟨cond (yl v==[]) [49,46,48,46,48] (yl v),c',?_,hc',?_⟩
 · cases yl v == [] with
   | true=>exact (by decide:([49,46,48,46,48]:List UInt8).length≤300)
   | false=>exact hl
 have ht:(strs v.pre).take v.pre.length=strs v.pre:=by rw[← zi v.pre];simp
 unfold VerR at d
 obtain⟨maj,min,pat,pre⟩:=v
 simp only[Ver.enc,List.map_cons,List.map_nil]at d d2 ht ⊢
 generalize yl ⟨maj,min,pat,pre⟩=s at *
 unfold cuR at *
 rcases d with⟨rfl,d⟩ | ⟨cap,d⟩
 · simp only [show strs [] = [] from rfl] at d2
   cases q:(s==[]) with
   | true =>
    refine zH Tryz.func96 rfl (by kernel_rfl) ?_
    unfold Tryz.f96
    simp (disch:=((try simp only[LL]);omega)) only[↓GO,↓DRW,GA,GX,ren,zk,za,refs,z8,cst,zr,isC,bin,una,z7,zd,blt,asArg,zg,zc,zf,z6,E.mkS,unN,ze,zm,zb,GS,simprocAttr,GZ,d,d2,q,zA]
   | false =>
    refine zH Tryz.func96 rfl (by kernel_rfl) ?_
    unfold Tryz.f96
    simp (disch:=((try simp only[LL]);omega)) only[↓GO,↓DRW,GA,GX,ren,zk,za,refs,z8,cst,zr,isC,bin,una,z7,zd,blt,asArg,zg,zc,zf,z6,E.mkS,unN,ze,zm,zb,GS,simprocAttr,GZ,d,d2,q,zA]
 · generalize strs pre = E0 at *
   cases q:(s==[]) with
   | true =>
    refine zH Tryz.func96 rfl (by kernel_rfl) ?_
    unfold Tryz.f96
    simp (disch:=((try simp only[LL]);omega)) only[↓GO,↓DRW,GA,GX,ren,zk,za,refs,z8,cst,zr,isC,bin,una,z7,zd,blt,asArg,zg,zc,zf,z6,E.mkS,unN,ze,zm,zb,GS,simprocAttr,GZ,d,d2,q,ht,zA]
   | false =>
    refine zH Tryz.func96 rfl (by kernel_rfl) ?_
    unfold Tryz.f96
    simp (disch:=((try simp only[LL]);omega)) only[↓GO,↓DRW,GA,GX,ren,zk,za,refs,z8,cst,zr,isC,bin,una,z7,zd,blt,asArg,zg,zc,zf,z6,E.mkS,unN,ze,zm,zb,GS,simprocAttr,GZ,d,d2,q,ht,zA]
theorem YF (a b c:Int):Ver.sm ⟨a,b,c,[[48]]⟩:=by simp[Ver.sm,yg]
theorem c_zpI (a b c:Int):zu (EV Tryz.prog pol) 210 [.t (.int .i64 a),.t (.int .i64 b),.t (.int .i64 c)]=some (.t (.str (wF a b c))):=by
 have h:=oI ⟨a,b,c,[[48]]⟩ (YF a b c)
 simp only[Ver.enc,List.map_cons,List.map_nil,uI,yM]at h
 unfold wF
 apply zx
 refine zy rfl Tryz.func210 rfl (by kernel_rfl) ?_
 unfold Tryz.f210
 simp (disch:=((try simp only[LL]);omega)) only[↓GO,↓DRW,GA,GX,ren,zk,za,refs,z8,cst,zr,isC,bin,una,z7,zd,blt,asArg,zg,zc,zf,z6,E.mkS,unN,ze,zm,zb,GS,simprocAttr,GZ,h]
theorem O7 (v:Ver)(hs:v.sm)(hp:v.pre.length+yg v.pre≤2097150)(h0 : -1≤v.pat)(h1:v.pat≤999999999):zu (EV Tryz.prog pol) 200 [.agg (v.enc.map .t)]=some (.agg [.t (.str (yl v)),.t (.str (jr v))]):=by
 have a1:=c_zpI v.maj v.min (v.pat+1)
 have a2:=oI v hs
 have hpv:(qT v).sm:=by
  unfold Ver.sm qT
  simp only[List.length_append,List.length_cons,List.length_nil,jb,yg];omega
 have a3:=oI (qT v) hpv
 unfold Ver.sm at hs
 have a4:=si (strs v.pre) (by rw[zi];omega)
 have ht:List.take (v.pre.length+1) (strs v.pre++[[T.str [48]]])=strs v.pre++[[T.str [48]]]:=List.take_of_length_le (by simp[zi])
 have hg:=Yo v.pre
 unfold jr
 rw[show (qT v).enc=[.int .i64 v.maj,.int .i64 v.min,.int .i64 v.pat,.list 1 (strs v.pre++[[.str [48]]])] by unfold Ver.enc qT;rw[o8];rfl]at a3
 simp only[Ver.enc,List.map_cons,List.map_nil]at a2 a3 ⊢
 rw[zi]at a4
 generalize yl (qT v)=tp at *
 generalize yl v=tv at *
 generalize wF v.maj v.min (v.pat+1)=tz at *
 cases hb:(v.pre==[])<;>rw[hb]at hg<;>simp only[Bool.not_true,Bool.not_false]at hg
 · apply zx
   refine zy rfl Tryz.func200 rfl (by kernel_rfl) ?_
   unfold Tryz.f200
   simp (disch:=((try simp only[LL]);omega)) only[↓GO,↓DRW,GA,GX,ren,zk,za,refs,z8,cst,zr,isC,bin,una,z7,zd,blt,asArg,zg,zc,zf,z6,E.mkS,unN,ze,zm,zb,GS,simprocAttr,GZ,a1,a2,a3,a4,ht,hg,zq,zi,ya,zA]
 · apply zx
   refine zy rfl Tryz.func200 rfl (by kernel_rfl) ?_
   unfold Tryz.f200
   simp (disch:=((try simp only[LL]);omega)) only[↓GO,↓DRW,GA,GX,ren,zk,za,refs,z8,cst,zr,isC,bin,una,z7,zd,blt,asArg,zg,zc,zf,z6,E.mkS,unN,ze,zm,zb,GS,simprocAttr,GZ,a1,a2,a3,a4,ht,hg,zq,zi,ya,zA]
def exT (s:Str):List (List T):=match vE s with
 | some (l,h)=>[[.str l,.str h]]
 | none=>[]
theorem eZ (s:Str)(hl:s.length≤1048700):(y5 s).1.pre.length+yg (y5 s).1.pre≤1048701:=by
 unfold y5
 cases hm:ub s with
 | none=>simp[Ver.zero,yg]
 | some v =>
  have h:v.pre.length+yg v.pre≤1048701:=by
   unfold ub at hm
   split at hm
   · cases hm
     have:=u5 46 (yI 45 s).2.1
     have h5:=(oG 45 s).2
     cases (yI 45 s).2.2 with
     | true=>simp only[cond_true];omega
     | false=>simp[yg]
   · cases hm
  simp only
  cases (yl v==s) with
  | true=>exact h
  | false=>simp[Ver.zero,yg]
theorem c_exI (s:Str)(hl:s.length≤1048700):zu (EV Tryz.prog pol) 151 [.t (.str s)]=some (.t (.list 2 (exT s))):=by
 have h1:=c_rvI s hl
 obtain⟨m1,m2,m3,m4,m5,m6,m7⟩:=lI s hl
 have hp:=eZ s hl
 have h2:=O7 (y5 s).1 m1 (by omega) m7 m6
 unfold exT vE
 unfold rvT at h1
 cases hk:(y5 s).2 with
 | false =>
  rw[hk]at h1
  generalize (y5 s).1=v at *
  generalize yl v=tv at *
  generalize jr v=hv at *
  simp only[Ver.enc,List.map_cons,List.map_nil]at h1 h2 ⊢
  apply zx
  refine zy rfl Tryz.func151 rfl (by kernel_rfl) ?_
  unfold Tryz.f151
  simp (disch:=((try simp only[LL]);omega)) only[↓GO,↓DRW,GA,GX,ren,zk,za,refs,z8,cst,zr,isC,bin,una,z7,zd,blt,asArg,zg,zc,zf,z6,E.mkS,unN,ze,zm,zb,GS,simprocAttr,GZ,h1,h2]
 | true =>
  have ht:=(wP hk).2.1
  rw[ht]at h2
  rw[hk]at h1
  generalize (y5 s).1=v at *
  generalize jr v=hv at *
  simp only[Ver.enc,List.map_cons,List.map_nil]at h1 h2 ⊢
  cases he:(hv==[])
  · apply zx
    refine zy rfl Tryz.func151 rfl (by kernel_rfl) ?_
    unfold Tryz.f151
    simp (disch:=((try simp only[LL]);omega)) only[↓GO,↓DRW,GA,GX,ren,zk,za,refs,z8,cst,zr,isC,bin,una,z7,zd,blt,asArg,zg,zc,zf,z6,E.mkS,unN,ze,zm,zb,GS,simprocAttr,GZ,h1,h2,he]
  · apply zx
    refine zy rfl Tryz.func151 rfl (by kernel_rfl) ?_
    unfold Tryz.f151
    simp (disch:=((try simp only[LL]);omega)) only[↓GO,↓DRW,GA,GX,ren,zk,za,refs,z8,cst,zr,isC,bin,una,z7,zd,blt,asArg,zg,zc,zf,z6,E.mkS,unN,ze,zm,zb,GS,simprocAttr,GZ,h1,h2,he]
theorem ma (a b:Int):zu (EV Tryz.prog pol) 184 [.t (.int .i64 a),.t (.int .i64 b)]=some (.t (.int .i64 (u6 a b))):=by
 unfold u6
 cases h1:decide (a<b)<;>cases h2:decide (a > b)
 all_goals
  apply zx
  refine zy rfl Tryz.func184 rfl (by kernel_rfl) ?_
  unfold Tryz.f184
  simp (disch:=((try simp only[LL]);omega)) only[↓GO,↓DRW,GA,GX,ren,zk,za,refs,z8,cst,zr,isC,bin,una,z7,zd,blt,asArg,zg,zc,zf,z6,E.mkS,unN,ze,zm,zb,GS,simprocAttr,GZ,h1,h2]
theorem PO (a b:Str):zu (EV Tryz.prog pol) 220 [.t (.str a),.t (.str b)]=some (.t (.int .i64 (aM a b))):=by
 unfold aM
 cases h1:Op.bytesLess a b<;>cases h2:(a==b)
 all_goals
  apply zx
  refine zy rfl Tryz.func220 rfl (by kernel_rfl) ?_
  unfold Tryz.f220
  simp (disch:=((try simp only[LL]);omega)) only[↓GO,↓DRW,GA,GX,ren,zk,za,refs,z8,cst,zr,isC,bin,una,z7,zd,blt,asArg,zg,zc,zf,z6,E.mkS,unN,ze,zm,zb,GS,simprocAttr,GZ,h1,h2]
theorem M5 (a b:Str)(ha:a.length≤4194304)(hb:b.length≤4194304):zu (EV Tryz.prog pol) 185 [.t (.str a),.t (.str b)]=some (.t (.int .i64 (sj a b))):=by
 have d1:=fF a (by omega)
 have d2:=fF b (by omega)
 have d3:=ma (zT a) (zT b)
 have d4:=PO a b
 unfold sj
 generalize zT a=ra at *
 generalize zT b=rb at *
 cases h1:decide (ra≥0)<;>cases h2:decide (rb≥0)
 all_goals
  apply zx
  refine zy rfl Tryz.func185 rfl (by kernel_rfl) ?_
  unfold Tryz.f185
  simp (disch:=((try simp only[LL]);omega)) only[↓GO,↓DRW,GA,GX,ren,zk,za,refs,z8,cst,zr,isC,bin,una,z7,zd,blt,asArg,zg,zc,zf,z6,E.mkS,unN,ze,zm,zb,GS,simprocAttr,GZ,d1,d2,d3,d4,h1,h2]
theorem NK (x1 x2 x3 x4 y1 y2 y3 y4:T)(a b c:Int) :
 EV Tryz.prog pol (.loop 124 58 0 [.ptr 0 0 0,.ptr 1 0 0,.sl 2 0 3 (some 3),.t (.int .i64 0)] [.vs 4 [[.t x1,.t x2,.t x3,.t x4]],.vs 4 [[.t y1,.t y2,.t y3,.t y4]],.ts 1 [[.int .i64 a],[.int .i64 b],[.int .i64 c]]])
 = some (cond (a==0) (cond (b==0) (cond (c==0) (.loop (.exit 0) [.ptr 0 0 0,.ptr 1 0 0,.bad] [.vs 4 [[.t x1,.t x2,.t x3,.t x4]],.vs 4 [[.t y1,.t y2,.t y3,.t y4]]])
  (.loop .ret [.ptr 0 0 0,.ptr 1 0 0,.t (.int .i64 c)] [.vs 4 [[.t x1,.t x2,.t x3,.t x4]],.vs 4 [[.t y1,.t y2,.t y3,.t y4]]]))
  (.loop .ret [.ptr 0 0 0,.ptr 1 0 0,.t (.int .i64 b)] [.vs 4 [[.t x1,.t x2,.t x3,.t x4]],.vs 4 [[.t y1,.t y2,.t y3,.t y4]]]))
  (.loop .ret [.ptr 0 0 0,.ptr 1 0 0,.t (.int .i64 a)] [.vs 4 [[.t x1,.t x2,.t x3,.t x4]],.vs 4 [[.t y1,.t y2,.t y3,.t y4]]])):=by
 cases h1:(a==0)
 · refine zo Tryz.func124 rfl rfl ?_
   simp (disch:=((try simp only[LL]);omega)) only[↓GO,↓DRW,GA,GX,ren,zk,za,refs,z8,cst,zr,isC,bin,una,z7,zd,blt,asArg,zg,zc,zf,z6,E.mkS,unN,ze,zm,zb,GS,simprocAttr,GZ,h1,bne,zq,zA]
 · refine zo Tryz.func124 rfl rfl ?_
   simp (disch:=((try simp only[LL]);omega)) only[↓GO,↓DRW,GA,GX,ren,zk,za,refs,z8,cst,zr,isC,bin,una,z7,zd,blt,asArg,zg,zc,zf,z6,E.mkS,unN,ze,zm,zb,GS,simprocAttr,GZ,h1,bne,zq,zA,Int.zero_add]
   cases h2:(b==0)
   · refine zo Tryz.func124 rfl rfl ?_
     simp (disch:=((try simp only[LL]);omega)) only[↓GO,↓DRW,GA,GX,ren,zk,za,refs,z8,cst,zr,isC,bin,una,z7,zd,blt,asArg,zg,zc,zf,z6,E.mkS,unN,ze,zm,zb,GS,simprocAttr,GZ,h2,bne,zq,zA]
   · refine zo Tryz.func124 rfl rfl ?_
     simp (disch:=((try simp only[LL]);omega)) only[↓GO,↓DRW,GA,GX,ren,zk,za,refs,z8,cst,zr,isC,bin,una,z7,zd,blt,asArg,zg,zc,zf,z6,E.mkS,unN,ze,zm,zb,GS,simprocAttr,GZ,h2,bne,zq,zA,Int.reduceAdd]
     cases h3:(c==0)
     · refine zo Tryz.func124 rfl rfl ?_
       simp (disch:=((try simp only[LL]);omega)) only[↓GO,↓DRW,GA,GX,ren,zk,za,refs,z8,cst,zr,isC,bin,una,z7,zd,blt,asArg,zg,zc,zf,z6,E.mkS,unN,ze,zm,zb,GS,simprocAttr,GZ,h3,bne,zq,zA]
     · refine zo Tryz.func124 rfl rfl ?_
       simp (disch:=((try simp only[LL]);omega)) only[↓GO,↓DRW,GA,GX,ren,zk,za,refs,z8,cst,zr,isC,bin,una,z7,zd,blt,asArg,zg,zc,zf,z6,E.mkS,unN,ze,zm,zb,GS,simprocAttr,GZ,h3,bne,zq,zA,Int.reduceAdd]
       refine zo Tryz.func124 rfl rfl ?_
       simp (disch:=((try simp only[LL]);omega)) only[↓GO,↓DRW,GA,GX,ren,zk,za,refs,z8,cst,zr,isC,bin,una,z7,zd,blt,asArg,zg,zc,zf,z6,E.mkS,unN,ze,zm,zb,GS,simprocAttr,GZ,zq,zA]
theorem RN (a b:Ver)(ha:a.sm)(hb:b.sm):∀ (ra rb pa pb:List Str),a.pre=pa++ra→b.pre=pb++rb→pa.length=pb.length →
 EV Tryz.prog pol (.loop 124 250 0 [.ptr 0 0 0,.ptr 1 0 0,.t (.int .i64 (pa.length:Int))] [.vs 4 [a.enc.map .t],.vs 4 [b.enc.map .t]])
 = some (match qA ra rb with
  | some n=>.loop .ret [.ptr 0 0 0,.ptr 1 0 0,.t (.int .i64 n)] [.vs 4 [a.enc.map .t],.vs 4 [b.enc.map .t]]
  | none=>.loop (.exit 2) [.ptr 0 0 0,.ptr 1 0 0,.bad] [.vs 4 [a.enc.map .t],.vs 4 [b.enc.map .t]])
 | [],rb,pa,pb,h1,h2,h3=>by
  have c:decide ((pa.length:Int)<(a.pre.length:Int))=false:=by simp[h1]
  simp only[Ver.enc,List.map_cons,List.map_nil,qA]
  refine zo Tryz.func124 rfl rfl ?_
  simp (disch:=((try simp only[LL]);omega)) only[↓GO,↓DRW,GA,GX,ren,zk,za,refs,z8,cst,zr,isC,bin,una,z7,zd,blt,asArg,zg,zc,zf,z6,E.mkS,unN,ze,zm,zb,GS,simprocAttr,GZ,zi,c,zA]
 | x::ra,[],pa,pb,h1,h2,h3=>by
  have c:decide ((pa.length:Int)<(a.pre.length:Int))=true:=by simp[h1];omega
  have c2:decide ((pa.length:Int)<(b.pre.length:Int))=false:=by simp[h2];omega
  simp only[Ver.enc,List.map_cons,List.map_nil,qA]
  refine zo Tryz.func124 rfl rfl ?_
  simp (disch:=((try simp only[LL]);omega)) only[↓GO,↓DRW,GA,GX,ren,zk,za,refs,z8,cst,zr,isC,bin,una,z7,zd,blt,asArg,zg,zc,zf,z6,E.mkS,unN,ze,zm,zb,GS,simprocAttr,GZ,zi,c,c2,zA]
 | x::ra,y::rb,pa,pb,h1,h2,h3=>by
  unfold Ver.sm at ha hb
  have c:decide ((pa.length:Int)<(a.pre.length:Int))=true:=by simp[h1];omega
  have c2:decide ((pa.length:Int)<(b.pre.length:Int))=true:=by simp[h2];omega
  have hg1:(strs a.pre)[pa.length]? = some [.str x]:=by rw[h1];exact vK pa x ra
  have hg2:(strs b.pre)[pa.length]? = some [.str y]:=by rw[h2,h3];exact vK pb y rb
  have hlen:pa.length+ra.length+1≤a.pre.length:=by rw[h1];simp;omega
  have hx:x.length≤2097152:=by have:=uY (ks:=a.pre) (s:=x) (by rw[h1];simp);omega
  have hy:y.length≤2097152:=by have:=uY (ks:=b.pre) (s:=y) (by rw[h2];simp);omega
  have hp:=M5 x y (by omega) (by omega)
  have IH:=RN a b ha hb ra rb (pa++[x]) (pb++[y]) (by rw[h1];simp) (by rw[h2];simp) (by simp[h3])
  rw[show ((pa++[x]).length:Int)=(pa.length:Int)+1 by simp]at IH
  clear h1 h2
  simp only[Ver.enc,List.map_cons,List.map_nil]at IH ⊢
  rw[qA]
  generalize sj x y=n at *
  cases hn:(n==0)
  · simp only [cond_false]
    refine zo Tryz.func124 rfl rfl ?_
    simp (disch:=((try simp only[LL]);omega)) only[↓GO,↓DRW,GA,GX,ren,zk,za,refs,z8,cst,zr,isC,bin,una,z7,zd,blt,asArg,zg,zc,zf,z6,E.mkS,unN,ze,zm,zb,GS,simprocAttr,GZ,zi,c,c2,hg1,hg2,hp,hn,bne,zq,zA]
  · simp only [cond_true]
    refine zo Tryz.func124 rfl rfl ?_
    simp (disch:=((try simp only[LL]);omega)) only[↓GO,↓DRW,GA,GX,ren,zk,za,refs,z8,cst,zr,isC,bin,una,z7,zd,blt,asArg,zg,zc,zf,z6,E.mkS,unN,ze,zm,zb,GS,simprocAttr,GZ,zi,c,c2,hg1,hg2,hp,hn,bne,zq,zA,IH]
theorem Mj (a b : Ver) (ha : a.sm) (hb : b.sm) : zu (EV Tryz.prog pol) 124 [.agg (a.enc.map .t), .agg (b.enc.map .t)] = some (.t (.int .i64 (aL a b))) := by
 have d1:=ma a.maj b.maj
 have d2:=ma a.min b.min
 have d3:=ma a.pat b.pat
 have d4:=ma (b.pre.length:Int) (a.pre.length:Int)
 have d5:=ma (a.pre.length:Int) (b.pre.length:Int)
 have L2:=RN a b ha hb a.pre b.pre [] [] rfl rfl rfl
 have L1:=NK (.int .i64 a.maj) (.int .i64 a.min) (.int .i64 a.pat) (.list 1 (strs a.pre)) (.int .i64 b.maj) (.int .i64 b.min) (.int .i64 b.pat) (.list 1 (strs b.pre)) (u6 a.maj b.maj) (u6 a.min b.min) (u6 a.pat b.pat)
 have e1:=lq a.pre
 have e2:=lq b.pre
 unfold aL uN
 simp only[List.length_nil,Int.natCast_zero]at L2
 simp only[Ver.enc,List.map_cons,List.map_nil]at L1 L2 ⊢
 generalize u6 a.maj b.maj=n1 at *
 generalize u6 a.min b.min=n2 at *
 generalize u6 a.pat b.pat=n3 at *
 cases h1:(n1==0)<;>rw[h1]at L1
 · simp only [cond_false] at L1
   apply zx
   refine zy rfl Tryz.func124 rfl (by kernel_rfl) ?_
   unfold Tryz.f124
   simp (disch:=((try simp only[LL]);omega)) only[↓GO,↓DRW,GA,GX,ren,zk,za,refs,z8,cst,zr,isC,bin,una,z7,zd,blt,asArg,zg,zc,zf,z6,E.mkS,unN,ze,zm,zb,GS,simprocAttr,GZ,d1,d2,d3,L1,zA]
   refine zU (by kernel_rfl) ?_
   simp (disch:=((try simp only[LL]);omega)) only[↓GO,↓DRW,GA,GX,ren,zk,za,refs,z8,cst,zr,isC,bin,una,z7,zd,blt,asArg,zg,zc,zf,z6,E.mkS,unN,ze,zm,zb,GS,simprocAttr,GZ,d1,d2,d3,L1,zA]
 · cases h2 : (n2 == 0) <;> rw [h2] at L1
   · simp only [cond_false, cond_true] at L1
     apply zx
     refine zy rfl Tryz.func124 rfl (by kernel_rfl) ?_
     unfold Tryz.f124
     simp (disch:=((try simp only[LL]);omega)) only[↓GO,↓DRW,GA,GX,ren,zk,za,refs,z8,cst,zr,isC,bin,una,z7,zd,blt,asArg,zg,zc,zf,z6,E.mkS,unN,ze,zm,zb,GS,simprocAttr,GZ,d1,d2,d3,L1,zA]
     refine zU (by kernel_rfl) ?_
     simp (disch:=((try simp only[LL]);omega)) only[↓GO,↓DRW,GA,GX,ren,zk,za,refs,z8,cst,zr,isC,bin,una,z7,zd,blt,asArg,zg,zc,zf,z6,E.mkS,unN,ze,zm,zb,GS,simprocAttr,GZ,d1,d2,d3,L1,zA]
   · cases h3 : (n3 == 0) <;> rw [h3] at L1
     · simp only [cond_false, cond_true] at L1
       apply zx
       refine zy rfl Tryz.func124 rfl (by kernel_rfl) ?_
       unfold Tryz.f124
       simp (disch:=((try simp only[LL]);omega)) only[↓GO,↓DRW,GA,GX,ren,zk,za,refs,z8,cst,zr,isC,bin,una,z7,zd,blt,asArg,zg,zc,zf,z6,E.mkS,unN,ze,zm,zb,GS,simprocAttr,GZ,d1,d2,d3,L1,zA]
       refine zU (by kernel_rfl) ?_
       simp (disch:=((try simp only[LL]);omega)) only[↓GO,↓DRW,GA,GX,ren,zk,za,refs,z8,cst,zr,isC,bin,una,z7,zd,blt,asArg,zg,zc,zf,z6,E.mkS,unN,ze,zm,zb,GS,simprocAttr,GZ,d1,d2,d3,L1,zA]
     · simp only [cond_true] at L1
       cases hs:qA a.pre b.pre<;>rw[hs]at L2<;>simp only at L2<;>cases h4:(a.pre==[])<;>cases h5:(b.pre==[])<;>rw[h4]at e1<;>rw[h5]at e2
       all_goals
        apply zx
        refine zy rfl Tryz.func124 rfl (by kernel_rfl) ?_
        unfold Tryz.f124
        simp (disch:=((try simp only[LL]);omega)) only[↓GO,↓DRW,GA,GX,ren,zk,za,refs,z8,cst,zr,isC,bin,una,z7,zd,blt,asArg,zg,zc,zf,z6,E.mkS,unN,ze,zm,zb,GS,simprocAttr,GZ,d1,d2,d3,d4,d5,L1,L2,zi,e1,e2,zA]
        refine zU (by kernel_rfl) ?_
        simp (disch:=((try simp only[LL]);omega)) only[↓GO,↓DRW,GA,GX,ren,zk,za,refs,z8,cst,zr,isC,bin,una,z7,zd,blt,asArg,zg,zc,zf,z6,E.mkS,unN,ze,zm,zb,GS,simprocAttr,GZ,d1,d2,d3,d4,d5,L1,L2,zi,e1,e2,zA,Option.getD_some,Option.getD_none]
theorem OB (v:Ver)(p:Int):(upV v p).sm:=by
 unfold upV
 cases (p==0)<;>cases (p==1)<;>simp[Ver.sm,yg]
theorem Pd {v:Ver}(h:v.sm)(p:Int):(u9 v p).sm:=by
 unfold u9
 cases (!(xr v)||!(B2 p 0 2))<;>cases xr (upV v p)<;>simp only[cond_true,cond_false]<;>first | exact h | exact OB v p
theorem M8 (v : Ver) (p : Int) (hs : v.sm) (hp : p = 0 ∨ p = 1 ∨ p = 2) (h1 : -1 ≤ v.maj ∧ v.maj ≤ 999999999) (h2 : -1 ≤ v.min ∧ v.min ≤ 999999999) (h3 : -1 ≤ v.pat ∧ v.pat ≤ 999999999) :
 zu (EV Tryz.prog pol) 284 [.agg (v.enc.map .t),.t (.int .i64 p)]=some (.agg ((u9 v p).enc.map .t)):=by
 have d1:=Yv v hs
 have d2:=Yv (upV v p) (OB v p)
 have d3:=wG p 0 2
 have hb:B2 p 0 2=true:=by rcases hp with rfl | rfl | rfl<;>rfl
 have e1:=lq v.pre
 have ht:List.take (0+(strs v.pre).length) (strs v.pre)=strs v.pre:=List.take_of_length_le (by omega)
 have ht2:List.take v.pre.length (strs v.pre)=strs v.pre:=List.take_of_length_le (by rw[zi];omega)
 unfold Ver.sm at hs
 rw[hb]at d3
 unfold u9
 rw[hb]
 simp only[Bool.not_true,Bool.or_false]
 cases ho:xr v<;>rw[ho]at d1
 · simp only [Ver.enc, List.map_cons, List.map_nil, Bool.not_false, cond_true] at d1 ⊢
   apply zx
   refine zy rfl Tryz.func284 rfl (by kernel_rfl) ?_
   unfold Tryz.f284
   simp (disch:=((try simp only[LL]);omega)) only[↓GO,↓DRW,GA,GX,ren,zk,za,refs,z8,cst,zr,isC,bin,una,z7,zd,blt,asArg,zg,zc,zf,z6,E.mkS,unN,ze,zm,zb,GS,simprocAttr,GZ,d1,zi,ht,ht2,ya]
 · simp only [Bool.not_true, cond_false]
   unfold upV at d2 ⊢
   rcases hp with rfl | rfl | rfl
   · simp only [show ((0 : Int) == 0) = true from rfl, cond_true] at d2 ⊢
     cases hu:xr ⟨v.maj+1,0,0,[]⟩<;>rw[hu]at d2<;>simp only[Ver.enc,List.map_cons,List.map_nil,yM,cond_true,cond_false]at d1 d2 ⊢
     all_goals
      apply zx
      refine zy rfl Tryz.func284 rfl (by kernel_rfl) ?_
      unfold Tryz.f284
      simp (disch:=((try simp only[LL]);omega)) only[↓GO,↓DRW,GA,GX,ren,zk,za,refs,z8,cst,zr,isC,bin,una,z7,zd,blt,asArg,zg,zc,zf,z6,E.mkS,unN,ze,zm,zb,GS,simprocAttr,GZ,d1,d2,d3,zi,ht,ht2,ya,zq]
   · simp only [show ((1 : Int) == 0) = false from rfl, show ((1 : Int) == 1) = true from rfl, cond_true, cond_false] at d2 ⊢
     cases hu:xr ⟨v.maj,v.min+1,0,[]⟩<;>rw[hu]at d2<;>simp only[Ver.enc,List.map_cons,List.map_nil,yM,cond_true,cond_false]at d1 d2 ⊢
     all_goals
      apply zx
      refine zy rfl Tryz.func284 rfl (by kernel_rfl) ?_
      unfold Tryz.f284
      simp (disch:=((try simp only[LL]);omega)) only[↓GO,↓DRW,GA,GX,ren,zk,za,refs,z8,cst,zr,isC,bin,una,z7,zd,blt,asArg,zg,zc,zf,z6,E.mkS,unN,ze,zm,zb,GS,simprocAttr,GZ,d1,d2,d3,zi,ht,ht2,ya,zq]
   · simp only [show ((2 : Int) == 0) = false from rfl, show ((2 : Int) == 1) = false from rfl, cond_false] at d2 ⊢
     cases hq:(v.pre==[])<;>rw[hq]at e1 d2<;>simp only[cond_true,cond_false]at d2 ⊢
     · cases hu : xr ⟨v.maj, v.min, v.pat, []⟩ <;> rw [hu] at d2 <;> simp only [Ver.enc, List.map_cons, List.map_nil, yM, cond_true, cond_false] at d1 d2 ⊢
       all_goals
        apply zx
        refine zy rfl Tryz.func284 rfl (by kernel_rfl) ?_
        unfold Tryz.f284
        simp (disch:=((try simp only[LL]);omega)) only[↓GO,↓DRW,GA,GX,ren,zk,za,refs,z8,cst,zr,isC,bin,una,z7,zd,blt,asArg,zg,zc,zf,z6,E.mkS,unN,ze,zm,zb,GS,simprocAttr,GZ,d1,d2,d3,e1,zi,ht,ht2,ya,zq]
     · cases hu : xr ⟨v.maj, v.min, v.pat + 1, []⟩ <;> rw [hu] at d2 <;> simp only [Ver.enc, List.map_cons, List.map_nil, yM, cond_true, cond_false] at d1 d2 ⊢
       all_goals
        apply zx
        refine zy rfl Tryz.func284 rfl (by kernel_rfl) ?_
        unfold Tryz.f284
        simp (disch:=((try simp only[LL]);omega)) only[↓GO,↓DRW,GA,GX,ren,zk,za,refs,z8,cst,zr,isC,bin,una,z7,zd,blt,asArg,zg,zc,zf,z6,E.mkS,unN,ze,zm,zb,GS,simprocAttr,GZ,d1,d2,d3,e1,zi,ht,ht2,ya,zq]
theorem ey (v:Ver):(xN v).sm:=by simp[xN,Ver.sm,yg]
theorem O6 (v:Ver)(p:Int)(hs:v.sm)(hp:p=0∨p=1∨p=2)(h1 : -1≤v.maj∧v.maj≤999999999)(h2 : -1≤v.min∧v.min≤999999999)(h3 : -1≤v.pat∧v.pat≤999999999) :
 zu (EV Tryz.prog pol) 240 [.agg (v.enc.map .t),.t (.int .i64 p)]=some (.tup [.t (.str (jm v p).1),.t (.bool (jm v p).2)]):=by
 have d1:=M8 (xN v) p (ey v) hp h1 h2 h3
 have d2:=Mj (u9 (xN v) p) (xN v) (Pd (ey v) p) (ey v)
 have d3:=ja ⟨(u9 (xN v) p).maj,(u9 (xN v) p).min,(u9 (xN v) p).pat,[[48]]⟩ (YF _ _ _)
 unfold jm
 generalize aL (u9 (xN v) p) (xN v)=cm at *
 generalize yl ⟨(u9 (xN v) p).maj,(u9 (xN v) p).min,(u9 (xN v) p).pat,[[48]]⟩=tx at *
 generalize u9 (xN v) p=nx at *
 simp only[Ver.enc,xN,List.map_cons,List.map_nil,uI,yM]at d1 d2 d3 ⊢
 cases hc:(cm==0)
 all_goals
  apply zx
  refine zy rfl Tryz.func240 rfl (by kernel_rfl) ?_
  unfold Tryz.f240
  simp (disch:=((try simp only[LL]);omega)) only[↓GO,↓DRW,GA,GX,ren,zk,za,refs,z8,cst,zr,isC,bin,una,z7,zd,blt,asArg,zg,zc,zf,z6,E.mkS,unN,ze,zm,zb,GS,simprocAttr,GZ,d1,d2,d3,hc,yM]
def alT (s:Str):V:=match vE s with
 | some (l,h)=>.tup [.agg [.t (.str l),.t (.str h)],.t (.bool true)]
 | none=>.tup [.agg [.t (.str []),.t (.str [])],.t (.bool false)]
theorem TZ (s:Str)(hl:s.length≤1048600):zu (EV Tryz.prog pol) 199 [.t (.str s)]=some (alT s):=by
 have d1:=N4 s (by omega)
 have d2:=N4 (s++[46,48]) (by simp only[List.length_append,List.length_cons,List.length_nil];omega)
 obtain⟨m1,m2,m3,m4,m5,m6,m7⟩:=lI s (by omega)
 have d3:=O6 (y5 s).1 2 m1 (by omega) ⟨m3,m2⟩ ⟨m5,m4⟩ ⟨m7,m6⟩
 have hg:=Yo (y5 s).1.pre
 unfold rvT at d1 d2
 unfold alT vE jr
 cases hk:(y5 s).2 with
 | false =>
  rw[hk]at d1
  generalize (y5 s).1=v at *
  simp only[Bool.false_and,cond_false]
  simp only[Ver.enc,List.map_cons,List.map_nil]at d1 ⊢
  apply zx
  refine zy rfl Tryz.func199 rfl (by kernel_rfl) ?_
  unfold Tryz.f199
  simp (disch:=((try simp only[LL]);omega)) only[↓GO,↓DRW,GA,GX,ren,zk,za,refs,z8,cst,zr,isC,bin,una,z7,zd,blt,asArg,zg,zc,zf,z6,E.mkS,unN,ze,zm,zb,GS,simprocAttr,GZ,d1]
 | true =>
  have ho:=(wP hk).2.2.1
  rw[hk]at d1
  cases hp:((y5 s).1.pre==[]) with
  | true =>
   have hb:=S7 ho 2 (by omega)
   simp only[show ((2:Int)==0)=false from rfl,show ((2:Int)==1)=false from rfl,show ((2:Int)==2)=true from rfl,cond_true,cond_false]at hb
   rw[hb]at d3
   rw[hp]at hg
   simp only[Bool.not_true,cond_true,Bool.true_and]at hg ⊢
   generalize (y5 s).1=v at *
   generalize wF v.maj v.min (v.pat+1)=zp at *
   simp only[Ver.enc,List.map_cons,List.map_nil]at d1 d3 ⊢
   clear d2 hb
   cases hz:(zp==[])<;>rw[hz]at d3<;>simp only[Bool.not_true,Bool.not_false,cond_true,cond_false]at d3 ⊢
   all_goals
    apply zx
    refine zy rfl Tryz.func199 rfl (by kernel_rfl) ?_
    unfold Tryz.f199
    simp (disch:=((try simp only[LL]);omega)) only[↓GO,↓DRW,GA,GX,ren,zk,za,refs,z8,cst,zr,isC,bin,una,z7,zd,blt,asArg,zg,zc,zf,z6,E.mkS,unN,ze,zm,zb,GS,simprocAttr,GZ,d1,d3,hg,zi]
  | false =>
   obtain⟨r1,r2⟩:=WL hk (fun h=>by rw[h]at hp;cases hp)
   rw[r1]at d2
   rw[hp]at hg
   simp only[Bool.not_false,cond_false,Bool.true_and]at hg ⊢
   rw[r2]
   generalize xr (qT (y5 s).1)=pk at *
   generalize qT (y5 s).1=pv at *
   generalize (y5 s).1=v at *
   have hne:((s++[46,48])==[])=false:=by cases s<;>rfl
   simp only[Ver.enc,List.map_cons,List.map_nil]at d1 ⊢
   cases pk<;>simp only[Ver.enc,List.map_cons,List.map_nil,cond_true,cond_false,hne,Bool.not_false,show (([]:Str)==[])=true from rfl,Bool.not_true]at d2 ⊢
   all_goals
    apply zx
    refine zy rfl Tryz.func199 rfl (by kernel_rfl) ?_
    unfold Tryz.f199
    simp (disch:=((try simp only[LL]);omega)) only[↓GO,↓DRW,GA,GX,ren,zk,za,refs,z8,cst,zr,isC,bin,una,z7,zd,blt,asArg,zg,zc,zf,z6,E.mkS,unN,ze,zm,zb,GS,simprocAttr,GZ,d1,d2,hg,zi,ya]
theorem c_exR (s:Str)(hl:s.length≤1048600):zu (EV Tryz.prog pol) 150 [.t (.str s)]=some (.t (.list 2 (exT s))):=by
 have d1:=TZ s hl
 unfold exT
 unfold alT at d1
 cases he:vE s with
 | none =>
  rw[he]at d1
  simp only at d1 ⊢
  apply zx
  refine zy rfl Tryz.func150 rfl (by kernel_rfl) ?_
  unfold Tryz.f150
  simp (disch:=((try simp only[LL]);omega)) only[↓GO,↓DRW,GA,GX,ren,zk,za,refs,z8,cst,zr,isC,bin,una,z7,zd,blt,asArg,zg,zc,zf,z6,E.mkS,unN,ze,zm,zb,GS,simprocAttr,GZ,d1]
 | some x =>
  obtain⟨l,h⟩:=x
  rw[he]at d1
  simp only at d1 ⊢
  apply zx
  refine zy rfl Tryz.func150 rfl (by kernel_rfl) ?_
  unfold Tryz.f150
  simp (disch:=((try simp only[LL]);omega)) only[↓GO,↓DRW,GA,GX,ren,zk,za,refs,z8,cst,zr,isC,bin,una,z7,zd,blt,asArg,zg,zc,zf,z6,E.mkS,unN,ze,zm,zb,GS,simprocAttr,GZ,d1]
structure x5 where
 key:List UInt8
 text:List UInt8
 list:List (List UInt8)
 isList:Bool
def x5.enc (x:x5):List T:=[.str x.key,.str x.text,.list 1 (strs x.list),.bool x.isList]
def x5.zh (l:List x5):List (List T):=l.map x5.enc
def x5.y6 (x:x5):Nat:=x.key.length+x.text.length+(x.list.length+yg x.list)
def x5.zX:List x5→Nat
 | []=>0
 | c::cs=>x5.y6 c+x5.zX cs
def x5.ok (x:x5):Prop:=x.key.length≤9223372036854775807∧x.text.length≤9223372036854775807∧x.list.length≤9223372036854775807∧(∀ s∈x.list,s.length≤9223372036854775807)
theorem x5.vO (x:x5):x.enc.length=4:=rfl
theorem x5.wN (x:x5):x.enc.take 4=x.enc:=rfl
theorem x5.zj (cs:List x5):(x5.zh cs).length=cs.length:=by simp[x5.zh]
theorem x5.vj (cs:List x5)(i:Nat)(h:i<cs.length):(x5.zh cs)[i]? = some cs[i].enc:=by simp[x5.zh,h]
theorem x5.xa:∀ {cs:List x5} {c:x5},c∈cs→c.y6≤x5.zX cs
 | c'::cs,c,h=>by
  simp only[x5.zX]
  rcases List.mem_cons.1 h with rfl | h
  · omega
  · have:=x5.xa h;omega
structure xe where
 name:List UInt8
 fields:List x5
def xe.enc (x:xe):List T:=[.str x.name,.list 4 (x5.zh x.fields)]
def xe.zh (l:List xe):List (List T):=l.map xe.enc
def xe.y6 (x:xe):Nat:=x.name.length+(x.fields.length+x5.zX x.fields)
def xe.zX:List xe→Nat
 | []=>0
 | c::cs=>xe.y6 c+xe.zX cs
def xe.ok (x:xe):Prop:=x.name.length≤9223372036854775807∧x.fields.length≤9223372036854775807∧(∀ y∈x.fields,y.ok)
theorem xe.vO (x:xe):x.enc.length=2:=rfl
theorem xe.wN (x:xe):x.enc.take 2=x.enc:=rfl
theorem xe.zj (cs:List xe):(xe.zh cs).length=cs.length:=by simp[xe.zh]
theorem xe.vj (cs:List xe)(i:Nat)(h:i<cs.length):(xe.zh cs)[i]? = some cs[i].enc:=by simp[xe.zh,h]
theorem xe.xa:∀ {cs:List xe} {c:xe},c∈cs→c.y6≤xe.zX cs
 | c'::cs,c,h=>by
  simp only[xe.zX]
  rcases List.mem_cons.1 h with rfl | h
  · omega
  · have:=xe.xa h;omega
def xU {α:Type}(p:α→Bool):List α→Nat→Option Nat
 | [],_=>none
 | x::r,n=>if p x=true then some n else xU p r (n+1)
def ixI:Option Nat→Int
 | some n=>(n:Int)
 | none=>-1
theorem sf {α:Type}(p:α→Bool):∀ (l:List α) (n:Nat),(xU p l n).isSome=l.any p
 | [],_=>rfl
 | x::r,n=>by
  simp only[xU,List.any_cons]
  split
  · rename_i h;simp[h]
  · rename_i h;rw[sf p r (n+1)];simp[h]
theorem Xx {α:Type}(p:α→Bool)(l:List α):decide (ixI (xU p l 0)≥0)=l.any p:=by
 rw[← sf p l 0]
 cases xU p l 0 with
 | none=>rfl
 | some n=>simp[ixI]
structure zz where
 alg:List UInt8
 bytes:List UInt8
def zz.enc (x:zz):List T:=[.str x.alg,.str x.bytes]
def zz.zh (l:List zz):List (List T):=l.map zz.enc
def zz.y6 (x:zz):Nat:=x.alg.length+x.bytes.length
def zz.zX:List zz→Nat
 | []=>0
 | c::cs=>zz.y6 c+zz.zX cs
def zz.ok (x:zz):Prop:=x.alg.length≤9223372036854775807∧x.bytes.length≤9223372036854775807
theorem zz.vO (x:zz):x.enc.length=2:=rfl
theorem zz.wN (x:zz):x.enc.take 2=x.enc:=rfl
theorem zz.zj (cs:List zz):(zz.zh cs).length=cs.length:=by simp[zz.zh]
theorem zz.vj (cs:List zz)(i:Nat)(h:i<cs.length):(zz.zh cs)[i]? = some cs[i].enc:=by simp[zz.zh,h]
theorem zz.xa:∀ {cs:List zz} {c:zz},c∈cs→c.y6≤zz.zX cs
 | c'::cs,c,h=>by
  simp only[zz.zX]
  rcases List.mem_cons.1 h with rfl | h
  · omega
  · have:=zz.xa h;omega
structure z1 where
 name:List UInt8
 version:List UInt8
 source:List UInt8
 sums:List zz
 dev:Bool
 zn:List (List UInt8)
def z1.enc (x:z1):List T:=[.str x.name,.str x.version,.str x.source,.list 2 (zz.zh x.sums),.bool x.dev,.list 1 (strs x.zn)]
def z1.zh (l:List z1):List (List T):=l.map z1.enc
def z1.y6 (x:z1):Nat:=x.name.length+x.version.length+x.source.length+(x.sums.length+zz.zX x.sums)+(x.zn.length+yg x.zn)
def z1.zX:List z1→Nat
 | []=>0
 | c::cs=>z1.y6 c+z1.zX cs
def z1.ok (x:z1):Prop:=x.name.length≤9223372036854775807∧x.version.length≤9223372036854775807∧x.source.length≤9223372036854775807∧x.sums.length≤9223372036854775807∧(∀ y∈x.sums,y.ok)∧x.zn.length≤9223372036854775807∧(∀ s∈x.zn,s.length≤9223372036854775807)
theorem z1.vO (x:z1):x.enc.length=6:=rfl
theorem z1.wN (x:z1):x.enc.take 6=x.enc:=rfl
theorem z1.zj (cs:List z1):(z1.zh cs).length=cs.length:=by simp[z1.zh]
theorem z1.vj (cs:List z1)(i:Nat)(h:i<cs.length):(z1.zh cs)[i]? = some cs[i].enc:=by simp[z1.zh,h]
theorem z1.xa:∀ {cs:List z1} {c:z1},c∈cs→c.y6≤z1.zX cs
 | c'::cs,c,h=>by
  simp only[z1.zX]
  rcases List.mem_cons.1 h with rfl | h
  · omega
  · have:=z1.xa h;omega
structure zw where
 top:List (List UInt8)
 packs:List z1
def zw.enc (x:zw):List T:=[.list 1 (strs x.top),.list 6 (z1.zh x.packs)]
def zw.zh (l:List zw):List (List T):=l.map zw.enc
def zw.y6 (x:zw):Nat:=(x.top.length+yg x.top)+(x.packs.length+z1.zX x.packs)
def zw.zX:List zw→Nat
 | []=>0
 | c::cs=>zw.y6 c+zw.zX cs
def zw.ok (x:zw):Prop:=x.top.length≤9223372036854775807∧(∀ s∈x.top,s.length≤9223372036854775807)∧x.packs.length≤9223372036854775807∧(∀ y∈x.packs,y.ok)
theorem zw.vO (x:zw):x.enc.length=2:=rfl
theorem zw.wN (x:zw):x.enc.take 2=x.enc:=rfl
theorem zw.zj (cs:List zw):(zw.zh cs).length=cs.length:=by simp[zw.zh]
theorem zw.vj (cs:List zw)(i:Nat)(h:i<cs.length):(zw.zh cs)[i]? = some cs[i].enc:=by simp[zw.zh,h]
theorem zw.xa:∀ {cs:List zw} {c:zw},c∈cs→c.y6≤zw.zX cs
 | c'::cs,c,h=>by
  simp only[zw.zX]
  rcases List.mem_cons.1 h with rfl | h
  · omega
  · have:=zw.xa h;omega
theorem mD (g:Nat)(caps:List T)(p:z1→Bool)(es:List z1)(hl:es.length≤4611686018427387904)(hp:∀ x∈es,zu (EV Tryz.prog pol) g (.agg (x.enc.map .t)::caps.map .t)=some (.t (.bool (p x)))):∀ (rest pre:List z1),es=pre++rest →
 EV Tryz.prog pol (.loop 97 26 0 [.t (.list 6 (z1.zh es)),.t (.fn g caps),.t (.int .i64 (es.length:Int)),.t (.int .i64 (pre.length:Int))] [])=some (match xU p rest pre.length with | some i=>.loop .ret [.t (.int .i64 (i:Int))] [] | none=>.loop (.exit 0) [.bad] [])
 | [],pre,hs=>by
  have c:decide ((pre.length:Int)<(es.length:Int))=false:=by simp[hs]
  refine zo Tryz.func97 rfl rfl ?_
  simp only[↓GO,↓DRW,GA,GX,ren,zk,za,refs,z8,cst,zr,isC,bin,una,z7,zd,blt,asArg,zg,zc,zf,z6,E.mkS,unN,ze,zm,zb,GS,simprocAttr,c,xU]
 | b :: rest, pre, hs => by
  have c:decide ((pre.length:Int)<(es.length:Int))=true:=by simp[hs];omega
  have hi:pre.length<es.length:=by rw[hs];simp
  have hget:=z1.vj es pre.length hi
  have hgb:es[pre.length]=b:=by simp[hs]
  rw[hgb]at hget
  have hb:=hp b (by rw[hs];simp)
  have e1:(pre.length:Int)+1=((pre++[b]).length:Int):=by simp
  have IH:=mD g caps p es hl hp rest (pre++[b]) (by rw[hs];simp)
  refine zo Tryz.func97 rfl rfl ?_
  simp only[xU]
  cases hpb:p b with
  | true =>
   rw[hpb]at hb
   simp (disch:=omega) only[↓GO,↓DRW,GA,GX,ren,zk,za,refs,z8,cst,zr,isC,bin,una,z7,zd,blt,asArg,zg,zc,zf,z6,E.mkS,unN,ze,zm,zb,GS,simprocAttr,z1.zj,c,hget,z1.vO,z1.wN,zq,hb]
  | false =>
   rw[hpb]at hb
   simp (disch:=omega) only[↓GO,↓DRW,GA,GX,ren,zk,za,refs,z8,cst,zr,isC,bin,una,z7,zd,blt,asArg,zg,zc,zf,z6,E.mkS,unN,ze,zm,zb,GS,simprocAttr,z1.zj,c,hget,z1.vO,z1.wN,zq,hb]
   rw[e1,IH]
   simp
theorem ue (g:Nat)(caps:List T)(p:z1→Bool)(es:List z1)(hl:es.length≤4611686018427387904)(hp:∀ x∈es,zu (EV Tryz.prog pol) g (.agg (x.enc.map .t)::caps.map .t)=some (.t (.bool (p x)))) :
 zu (EV Tryz.prog pol) 97 [.t (.list 6 (z1.zh es)),.t (.fn g caps)]=some (.t (.int .i64 (ixI (xU p es 0)))):=by
 have IH:=mD g caps p es hl hp es [] rfl
 simp only[List.length_nil,Int.natCast_zero]at IH
 apply zx
 refine zy rfl Tryz.func97 rfl (by kernel_rfl) ?_
 unfold Tryz.f97
 cases hf:xU p es 0 with
 | none=>rw[hf]at IH;simp only[↓GO,↓DRW,GA,GX,ren,zk,za,refs,z8,cst,zr,isC,bin,una,z7,zd,blt,asArg,zg,zc,zf,z6,E.mkS,unN,ze,zm,zb,GS,simprocAttr,z1.zj,IH,ixI]
 | some i=>rw[hf]at IH;simp only[↓GO,↓DRW,GA,GX,ren,zk,za,refs,z8,cst,zr,isC,bin,una,z7,zd,blt,asArg,zg,zc,zf,z6,E.mkS,unN,ze,zm,zb,GS,simprocAttr,z1.zj,IH,ixI]
theorem dC (g:Nat)(caps:List T)(p:z1→Bool)(es:List z1)(hl:es.length≤4611686018427387904)(hp:∀ x∈es,zu (EV Tryz.prog pol) g (.agg (x.enc.map .t)::caps.map .t)=some (.t (.bool (p x)))) :
 zu (EV Tryz.prog pol) 61 [.t (.list 6 (z1.zh es)),.t (.fn g caps)]=some (.t (.bool (es.any p))):=by
 have h1:=ue g caps p es hl hp
 apply zx
 refine zy rfl Tryz.func61 rfl (by kernel_rfl) ?_
 unfold Tryz.f61
 have h2:=Xx p es
 simp only[↓GO,↓DRW,GA,GX,ren,zk,za,refs,z8,cst,zr,isC,bin,una,z7,zd,blt,asArg,zg,zc,zf,z6,E.mkS,unN,ze,zm,zb,GS,simprocAttr,h1,h2]
theorem lZ (g:Nat)(caps:List T)(p:zz→Bool)(es:List zz)(hl:es.length≤4611686018427387904)(hp:∀ x∈es,zu (EV Tryz.prog pol) g (.agg (x.enc.map .t)::caps.map .t)=some (.t (.bool (p x)))):∀ (rest pre:List zz),es=pre++rest →
 EV Tryz.prog pol (.loop 198 26 0 [.t (.list 2 (zz.zh es)),.t (.fn g caps),.t (.int .i64 (es.length:Int)),.t (.int .i64 (pre.length:Int))] [])=some (match xU p rest pre.length with | some i=>.loop .ret [.t (.int .i64 (i:Int))] [] | none=>.loop (.exit 0) [.bad] [])
 | [],pre,hs=>by
  have c:decide ((pre.length:Int)<(es.length:Int))=false:=by simp[hs]
  refine zo Tryz.func198 rfl rfl ?_
  simp only[↓GO,↓DRW,GA,GX,ren,zk,za,refs,z8,cst,zr,isC,bin,una,z7,zd,blt,asArg,zg,zc,zf,z6,E.mkS,unN,ze,zm,zb,GS,simprocAttr,c,xU]
 | b :: rest, pre, hs => by
  have c:decide ((pre.length:Int)<(es.length:Int))=true:=by simp[hs];omega
  have hi:pre.length<es.length:=by rw[hs];simp
  have hget:=zz.vj es pre.length hi
  have hgb:es[pre.length]=b:=by simp[hs]
  rw[hgb]at hget
  have hb:=hp b (by rw[hs];simp)
  have e1:(pre.length:Int)+1=((pre++[b]).length:Int):=by simp
  have IH:=lZ g caps p es hl hp rest (pre++[b]) (by rw[hs];simp)
  refine zo Tryz.func198 rfl rfl ?_
  simp only[xU]
  cases hpb:p b with
  | true =>
   rw[hpb]at hb
   simp (disch:=omega) only[↓GO,↓DRW,GA,GX,ren,zk,za,refs,z8,cst,zr,isC,bin,una,z7,zd,blt,asArg,zg,zc,zf,z6,E.mkS,unN,ze,zm,zb,GS,simprocAttr,zz.zj,c,hget,zz.vO,zz.wN,zq,hb]
  | false =>
   rw[hpb]at hb
   simp (disch:=omega) only[↓GO,↓DRW,GA,GX,ren,zk,za,refs,z8,cst,zr,isC,bin,una,z7,zd,blt,asArg,zg,zc,zf,z6,E.mkS,unN,ze,zm,zb,GS,simprocAttr,zz.zj,c,hget,zz.vO,zz.wN,zq,hb]
   rw[e1,IH]
   simp
theorem ky (g:Nat)(caps:List T)(p:zz→Bool)(es:List zz)(hl:es.length≤4611686018427387904)(hp:∀ x∈es,zu (EV Tryz.prog pol) g (.agg (x.enc.map .t)::caps.map .t)=some (.t (.bool (p x)))) :
 zu (EV Tryz.prog pol) 198 [.t (.list 2 (zz.zh es)),.t (.fn g caps)]=some (.t (.int .i64 (ixI (xU p es 0)))):=by
 have IH:=lZ g caps p es hl hp es [] rfl
 simp only[List.length_nil,Int.natCast_zero]at IH
 apply zx
 refine zy rfl Tryz.func198 rfl (by kernel_rfl) ?_
 unfold Tryz.f198
 cases hf:xU p es 0 with
 | none=>rw[hf]at IH;simp only[↓GO,↓DRW,GA,GX,ren,zk,za,refs,z8,cst,zr,isC,bin,una,z7,zd,blt,asArg,zg,zc,zf,z6,E.mkS,unN,ze,zm,zb,GS,simprocAttr,zz.zj,IH,ixI]
 | some i=>rw[hf]at IH;simp only[↓GO,↓DRW,GA,GX,ren,zk,za,refs,z8,cst,zr,isC,bin,una,z7,zd,blt,asArg,zg,zc,zf,z6,E.mkS,unN,ze,zm,zb,GS,simprocAttr,zz.zj,IH,ixI]
theorem Zv (g:Nat)(caps:List T)(p:zz→Bool)(es:List zz)(hl:es.length≤4611686018427387904)(hp:∀ x∈es,zu (EV Tryz.prog pol) g (.agg (x.enc.map .t)::caps.map .t)=some (.t (.bool (p x)))) :
 zu (EV Tryz.prog pol) 141 [.t (.list 2 (zz.zh es)),.t (.fn g caps)]=some (.t (.bool (es.any p))):=by
 have h1:=ky g caps p es hl hp
 apply zx
 refine zy rfl Tryz.func141 rfl (by kernel_rfl) ?_
 unfold Tryz.f141
 have h2:=Xx p es
 simp only[↓GO,↓DRW,GA,GX,ren,zk,za,refs,z8,cst,zr,isC,bin,una,z7,zd,blt,asArg,zg,zc,zf,z6,E.mkS,unN,ze,zm,zb,GS,simprocAttr,h1,h2]
def Qd:Str:=[115,104,97,49]
def fN:Str:=[115,104,97,50,53,54]
def h1S:Str:=[104,49]
def fM:Str:=[115,104,97,53,49,50]
def uZ (a:Str):Int:=cond (a==Qd) 20 (cond (a==fN||a==h1S) 32 (cond (a==fM) 64 (-1)))
def vA (prev:Option Str)(s:Str):Bool:=match prev with
 | none=>true
 | some p=>Op.bytesLess p s
def wQ:Option Str→List zz→Bool
 | _,[]=>true
 | prev,s::r=>(((s.bytes.length:Int)==uZ s.alg)&&vA prev s.alg)&&wQ (some s.alg) r
def keyOf (p:z1):Str:=(p.name++[64])++p.version
def mV (ps:List z1)(k:Str):Bool:=ps.any fun p=>keyOf p==k
def tk (ps:List z1)(k:Str):Option Nat:=xU (fun p=>keyOf p==k) ps 0
def xD (ps:List z1):Option Str→List Str→Bool
 | _,[]=>true
 | prev,k::r=>(mV ps k&&vA prev k)&&xD ps (some k) r
def wu (p:z1):Bool:=rS p.name&&((vE p.version).isSome&&(tD p.source&&wQ none p.sums))
def w9 (ps:List z1):Option Str→List z1→Bool
 | _,[]=>true
 | prev,p::r=>(wu p&&(vA prev (keyOf p)&&xD ps none p.zn))&&w9 ps (some (keyOf p)) r
def zO (g:zw):Bool:=w9 g.packs none g.packs&&(decide ((g.packs.length:Int)≤40)&&xD g.packs none g.top)
theorem RP {α:Type}(p:α→Bool)(l:List α):decide (ixI (xU p l 0)<0) = !(l.any p):=by
 rw[← sf p l 0]
 cases xU p l 0 with
 | none=>rfl
 | some n =>
  have h:¬ ((n:Int)<0):=by omega
  show decide ((n:Int)<0)=false
  exact decide_eq_false h
theorem s9 {α:Type}(f:α→List T)(pre:List α)(q:α)(rest:List α):tM ((pre++[q]++rest).map f) (((pre++[q]).length:Int) - 1)=some (f q):=by
 unfold tM
 rw[if_pos (by simp)]
 have e:(((pre++[q]).length:Int) - 1).toNat=pre.length:=by simp
 rw[e]
 simp
theorem sP {α:Type}(f:α→List T)(pre:List α)(x:α)(rest:List α):((pre++x::rest).map f)[pre.length]? = some (f x):=by simp
theorem ea (p:z1):(keyOf p).length≤p.y6+1:=by
 unfold keyOf z1.y6
 simp only[List.length_append,List.length_cons,List.length_nil];omega
theorem wI {α:Type}(l:List α):l=[]∨∃ p q,l=p++[q]:=by
 rcases List.eq_nil_or_concat l with h | ⟨p,q,h⟩
 · exact .inl h
 · exact .inr ⟨p,q,by rw[h,List.concat_eq_append]⟩
end Go.Proofs.YtefkoljdebekdaaGreatDoor

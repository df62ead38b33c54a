/- Joined: E10 E10P E11. Conditions: those of each lemma. -/
import Derived.Test.YtefkoljdebekdaaGreatDoorsC
import Derived.Laws.BytesArg
import Derived.Laws.MakeOwn
set_option linter.unusedVariables false
set_option linter.unusedSimpArgs false
namespace Go.Proofs.YtefkoljdebekdaaGreatDoor.E
variable {P:Program} {w:World} {F:Nat→Prop} {ρ:y9} {Ow:Own} {h:Heap}
theorem pr:∀ {es:List (List T)} {l:List Int},bytesOf es=some l→es=l.map fun n=>[T.int .u8 n]
 | [],l,hb=>by simp only[bytesOf]at hb;cases hb;rfl
 | c::r,l,hb=>by
  simp only[bytesOf]at hb
  split at hb
  · split at hb
    · rename_i l' hl;cases hb;rw[pr hl];rfl
    · cases hb
  · cases hb
theorem gZ {src:TypeId}(hb:vK P src=true):∃ el,P.underlying src=some (.slice el)∧P.underlying el=some (.int .u8)∧zC P el=1∧yo P src=some el:=by
 unfold vK at hb
 split at hb
 · rename_i el hel;simp only[Bool.and_eq_true,beq_iff_eq]at hb;exact⟨el,(xW hel).1,cN hb.1,hb.2,hel⟩
 · cases hb
theorem su {src dst:TypeId} (hb:vK P src=true) (hd:P.underlying dst=some .string) {a:Option Addr} {n c:Nat} {l:List Int} (hl:l.length=n)
 (hc:0<n→∃ b o,a=some ⟨b,o,none⟩∧∀ i,i<n→w.cell? ⟨b,o+i,none⟩=some (.int .u8 (l.getD i 0))) :
 ∃ u,(convert src dst (.slice a n c)).run P w=.ok u w∧RV w F ρ u (.t (.str (l.map fun n=>UInt8.ofNat n.toNat))):=by
 obtain⟨el,h1,h2,h3,h4⟩:=gZ hb
 by_cases hn:n=0
 · subst hn;have hl0:l=[]:=List.eq_nil_of_length_eq_zero hl;subst hl0
   cases a with
   | none=>exact⟨_,run_convert_bytes_nil w src el h1 h2 0 c dst hd,.t _ _ (.str _ _ rfl)⟩
   | some ad =>
    refine⟨.string ByteArray.empty,?_,.t _ _ (.str _ _ rfl)⟩;rw[run_convert_bytes_string w src dst el _ 0 c h1 h2 hd];simp[Conv.bytesToString,loadCells,loadCellsFrom]
 · obtain⟨b,o,rfl,hcell⟩:=hc (by omega);exact⟨_,run_convert_bytes_arg w src el h1 h2 b o n c l hl hcell dst hd,.t _ _ (.str _ _ (strOfNums_data l))⟩
theorem Sq (hS : St w F ρ Ow h) {src dst : TypeId} {x v : V} (hc : conv P src dst x h = some v) {u : Value} (hu : RV w F ρ u x) : ∃ u', (convert src dst u).run P w = .ok u' w ∧ RV w F ρ u' v := by
 unfold conv at hc
 split at hc
 · rename_i k hk;have hd:=cN hk
   split at hc
   · rename_i k' n
     split at hc
     · rename_i hkn;obtain⟨d,hs⟩:=ry hkn
       cases hc
       cases hu with
       | t _ _ hx =>
       cases hx;refine⟨.int k (k.wrap n),?_,.t _ _ (.int _ _)⟩;simp[convert,zF hs,zF hd,Conv.intToInt]
     · cases hc
   · cases hc
 · split at hc
   · rename_i hdst;have hd:=oo hdst
     split at hc
     · rename_i l
       split at hc
       · rename_i hkn;obtain⟨d,hs⟩:=ry hkn
         cases hc
         cases hu with
         | t _ _ hx =>
         cases hx with
         | str s _ hs' =>
         refine⟨.string s,?_,.t _ _ (.str _ _ hs')⟩;simp[convert,zF hs,zF hd]
       · cases hc
     · rename_i r off len cap
       split at hc
       · rename_i hb
         have main : ∀ es : List (List T), ((∃ L, ρ r = some (some L) ∧ L.sz = 1 ∧ xw w L es (RT w F)) ∨ (ρ r = some none ∧ es = [])) → ∀ l, bytesOf ((es.drop off).take len) = some l →
          ∃ u',(convert src dst u).run P w=.ok u' w∧RV w F ρ u' (.t (.str (l.map fun n=>UInt8.ofNat n.toNat))):=by
          intro es hrow l hl;have hes:=pr hl
          cases hu with
          | slP r cap a hρ hcp =>
           have hl0:l=[]:=by
            have:=congrArg List.length hes;simp at this;exact List.eq_nil_of_length_eq_zero (by simpa using this.symm)
           subst hl0;exact su hb hd rfl (fun hp=>by omega)
          | sl r off len cap L a c hρ ha hlc hn hc0 hc1 hz =>
           rcases hrow with⟨L',h1,h2,h3⟩|⟨h1,_⟩
           · rw[hρ]at h1;cases h1;obtain⟨hn',hl',cc,el',fr,hh,hs,hf,hzz,hcc⟩:=h3;have hll:l.length=len:=by
              have:=congrArg List.length hes;simp at this;omega
             refine su hb hd hll fun hp=>?_
             have hce:c≠0:=by omega
             obtain rfl:=ha.resolve_right hce;refine⟨L.b,L.o+off*L.sz,rfl,fun i hi=>?_⟩;have hget:((es.drop off).take len)[i]? = some [T.int .u8 (l.getD i 0)]:=by
              rw[hes];simp[List.getElem?_map,List.getElem?_eq_getElem (show i<l.length by omega),List.getD]
             rw[List.getElem?_take,if_pos hi,List.getElem?_drop]at hget;obtain⟨u,hu',hru⟩:=hcc _ 0 _ _ hget rfl
             cases hru;unfold World.cell?;rw[hh];simp only[Option.isSome_none];rw[h2]at hu' ⊢;rw[show L.o+off*1+i=L.o+((off+i)*1+0) by omega];simpa using hu'
           · rw[hρ]at h1;cases h1
         split at hc
         · rename_i es hblk
           split at hc
           · rename_i l hl;cases hc;exact main es ((hS.blk r _ hblk).imp (fun⟨L,a,b,c,_⟩=>⟨L,a,b,c⟩) id) l hl
           · cases hc
         · rename_i es hblk
           split at hc
           · rename_i l hl;cases hc;exact main es ((hS.blk r _ hblk).imp (fun⟨L,a,b,c,_⟩=>⟨L,a,b,c⟩) id) l hl
           · cases hc
         · cases hc
       · cases hc
     · split at hc
       · rename_i hb
         cases hc
         cases hu;exact su (l:=[]) hb hd rfl (fun hp=>by omega)
       · cases hc
     · rename_i es
       split at hc
       · rename_i hb
         split at hc
         · rename_i l hl
           cases hc;have hes:=pr hl;subst hes
           cases hu with
           | t _ _ hx =>
           cases hx with
           | list a n c sz es g hn hcc h0 hz hr =>
           refine su hb hd (by simpa using hn) fun hp=>?_
           obtain⟨b,o,rfl,_,hcell⟩:=h0 hp;refine⟨b,o,rfl,fun i hi=>?_⟩;have:=hcell i 0 hi (by omega);have hri:=hr i 0 [T.int .u8 (l.getD i 0)] (T.int .u8 (l.getD i 0)) (by simp at hn;simp[List.getElem?_map,List.getElem?_eq_getElem (show i<l.length by omega),List.getD]) rfl;rw[show i*1+0=i by omega]at this;rw[this];generalize hg:g i 0=gv at hri
           cases hri;rfl
         · cases hc
       · cases hc
     · cases hc
   · cases hc
theorem jr:∀ {us:List Value} {vs:List V} {xs:List T},RVs w F ρ us vs→qO vs=some xs→RTs w F us xs
 | _,[],xs,hu,hx=>by cases hu;simp[qO]at hx;subst hx;exact .nil
 | _, v :: vs, xs, hu, hx => by
  cases hu with
  | cons h1 hs =>
   unfold qO at hx
   split at hx
   · split at hx
     · rename_i x _ xs' hxs
       cases hx
       cases h1 with
       | t u x hx=>exact .cons hx (jr hs hxs)
     · cases hx
   · split at hx
     · rename_i sz _ xs' hxs
       cases hx
       cases h1 with
       | nil=>exact .cons (vi _ _ _) (jr hs hxs)
     · cases hx
   · cases hx
theorem TZ (hS:St w F ρ Ow h) (hO:OkO Ow w ρ h) {t el:TypeId} (hel:yo P t=some el) {zs:List V} (hz:zeroOf P el=some zs) {z:List T} (ha:qO zs=some z) {n:Nat} {k k':IntKind} (hs0:zC P el≠0)
 (hb:n*P.bytesOf el≤ya) (hm:n≤ya) :
 xx P w F ρ Ow (Instr.makeSlice t (.int k n) (.int k' n)) (.sl (nI Ow.N h) 0 n (some n)) (nH Ow.N h (.ts (zC P el) (List.replicate n z))):=by
 obtain⟨hty,_,_⟩:=xW hel;obtain⟨inf,zv,i1,i2,i3,i4,i5⟩:=wT (w:=w) (F:=F) (ρ:=ρ) hz;have hszi:inf.size=zC P el:=by simp[zC,Program.cellsOf,i1]
 have hby:P.bytesOf el=inf.bytes:=by simp[Program.bytesOf,i1]
 unfold ya at hb hm
 have hrun := run_make (P := P) w t el inf zv hty i1 i2 k k' n n (by omega) (Int.le_refl _) (by rw [hby] at hb; have : (inf.bytes : Int) * (n : Int) = ((n * inf.bytes : Nat) : Int) := by rw [Nat.mul_comm]; simp
                                                                                                omega) (by omega)
 have hzt:=jr i4 ha;have hzl:z.length=zC P el:=by rw[← zP hzt];simp[i3,hszi]
 have hrep:∀ e∈List.replicate n z,e.length=zC P el:=fun e he=>by rw[List.eq_of_mem_replicate he];exact hzl
 have hcells:RTs w F (madeCells zv.cells (n*inf.size)).toList (List.replicate n z).flatten:=by
  refine x6 (by simp[w9 hrep,size_madeCells,hszi]) fun m u v hu hv=>?_
  have hml:m<n*inf.size:=by
   have:=(List.getElem?_eq_some_iff.1 hu).1;simpa [size_madeCells] using this
  have hpos:0<zC P el:=by omega
  rw[hszi]at hml;have d1:m / zC P el<n:=(Nat.div_lt_iff_lt_mul hpos).2 hml;have d2:m % zC P el<zC P el:=Nat.mod_lt _ hpos;have d3:=Nat.div_add_mod m (zC P el);have hv':=flat_get hrep (i:=m / zC P el) (j:=m % zC P el) (cs:=z) (x:=z[m % zC P el]'(by omega)) (by simp[d1]) (List.getElem?_eq_getElem (by omega));rw[show m / zC P el*zC P el+m % zC P el=m by rw[Nat.mul_comm];omega]at hv';rw[hv]at hv';cases hv';obtain⟨u',e1,e2⟩:=yh hzt (m % zC P el) _ (List.getElem?_eq_getElem (by omega));have hzs:zv.cells.size=zC P el:=by rw[i3,hszi]
  have hu':u=u':=by
   simp only[madeCells,Array.toList_map,List.getElem?_map,Array.toList_range]at hu;rw[hszi]at hu;simp[hml]at hu;rw[← hu,hzs];have:zv.cells[m % zC P el]? = some u':=by simpa using e1
   simp[getElem!_def,this]
  rw[hu'];exact e2
 obtain⟨ρ',n1,n2,n3⟩:=aT (w:=w) (arr:=madeCells zv.cells (n*inf.size)) (el:=el) (es:=List.replicate n z) (sz:=zC P el) hS hO hrep (by simp[size_madeCells,hszi])
  (by rw[List.take_of_length_le (by simp[size_madeCells,hszi])];exact hcells)
 refine⟨_,F,ρ',.slice (some ⟨w.heap.size,0,none⟩) n n,?_,?_,n1,n2⟩
 · simpa using hrun
 · refine .sl _ 0 _ _ _ _ _ n3 (.inl (by simp)) (Nat.le_refl _) (by simp) (fun hcap=>by cases hcap) (fun k hk=>by cases hk;rfl) (fun _=>?_);simp[size_madeCells,hszi]
theorem lr {need c bytes:Nat}(hc:c<need)(hb:need*(2*bytes)≤ya):Builtin.nextslicecap need c*bytes≤281474976710656:=by
 unfold ya at hb;exact growslice_fits hc (by rw[Nat.mul_comm 2,← Nat.mul_assoc]at hb;omega)
theorem QS (hS : St w F ρ Ow h) (hO : OkO Ow w ρ h) {ty tx : TypeId} {s x v : V} {h' : Heap} (hc : app P Ow.N ty tx s x h = some (v, h')) {us ux : Value} (hs : RV w F ρ us s) (hx : RV w F ρ ux x) (rt : TypeId) :
 xx P w F ρ Ow (Builtin.append_ #[ty,tx] rt #[us,ux]) v h':=by
 unfold app at hc
 split at hc
 · cases hc
 · rename_i el hel;obtain⟨hty,inf0,hinf0⟩:=xW hel
   split at hc
   · cases hc
   · rename_i xs hsrc
     split at hc
     · rename_i sz
       split at hc
       · rename_i hcond;obtain⟨c1,c2,c3,c4,c5⟩:=hcond
         cases hc;subst c1;obtain⟨zs,hz⟩:=Option.isSome_iff_exists.1 c5;obtain⟨inf,zv,i1,i2,i3,i4,i5⟩:=wT (w:=w) (F:=F) (ρ:=ρ) hz;have hszi:inf.size=zC P el:=by simp[zC,Program.cellsOf,i1]
         obtain⟨news,k1,k2,k3⟩:=VY hS hsrc hx (by omega)
         cases hs with
         | nil sz =>
         by_cases hn:xs.length=0
         · have hx0:xs=[]:=List.eq_nil_of_length_eq_zero hn;subst hx0;obtain⟨ρ',g1,g2,g3⟩:=jh hS hO (zC P el);refine⟨w,F,ρ',.slice none 0 0,?_,.slP _ _ _ g3 (.inl rfl),g1,g2⟩;have hlen:=k1.len w;have hcl:=k1.cells;have hn0:news=[]:=List.eq_nil_of_length_eq_zero (by simpa using k1.newsLen);subst hn0;simp only[List.length_nil]at hlen hcl;rcases k1.kind with⟨e',hk⟩|hk <;>
            simp[Builtin.append_,zF hty,zF hk,run_sizeOf i1,hlen,hcl]
         · have hb:(0+xs.length)*(2*P.bytesOf el)≤ya:=by simpa using c3
           have hby:P.bytesOf el=inf.bytes:=by simp[Program.bytesOf,i1]
           obtain⟨ρ',g1,g2,g3⟩:=Yt hS hO i1 i2 i3 none (fun k hk=>by cases hk) (olds:=[]) (news:=news) (es:=xs) (by rw[hszi];exact k3) (need:=0+xs.length) (c0:=0) (by omega) (by omega) (by simpa using k2) (by omega);refine⟨_,F,ρ',_,run_append_grow_src w ty tx rt el inf zv hty i1 i2 none 0 0 [] (by simp[Builtin.firstCells]) ux xs.length news (by rw[hszi];exact k1) (by omega) (by unfold ya at c4;omega) (lr (by omega) (by rw[← hby];exact hb)),?_,?_,g2⟩
           · simpa using g3
           · rw[hszi]at g1;exact g1
       · cases hc
     · rename_i r off len cap
       split at hc
       · rename_i sz es hblk
         split at hc
         · rename_i hcond;obtain⟨c1,c2,c3,c4,c5,c6⟩:=hcond
           cases hc;subst c1;obtain⟨zs,hz⟩:=Option.isSome_iff_exists.1 c6;obtain⟨inf,zv,i1,i2,i3,i4,i5⟩:=wT (w:=w) (F:=F) (ρ:=ρ) hz;have hszi:inf.size=zC P el:=by simp[zC,Program.cellsOf,i1]
           have hby:P.bytesOf el=inf.bytes:=by simp[Program.bytesOf,i1]
           obtain⟨news,k1,k2,k3⟩:=VY hS hsrc hx (by omega);have hrw:r<h.length:=(List.getElem?_eq_some_iff.1 hblk).1
           -- nothing is there, nothing comes
           have empty:len+xs.length=0→∀ a:Option Addr,us=.slice a 0 0→xx P w F ρ Ow (Builtin.append_ #[ty,tx] rt #[us,ux]) (.sl (nI Ow.N h) 0 (len+xs.length) none) (nH Ow.N (h.set r .dead) (.ts (zC P el) (es.drop off++xs))):=by
            intro h0 a hus;subst hus;have hx0:xs=[]:=List.eq_nil_of_length_eq_zero (by omega);subst hx0;have hes:es.drop off=[]:=List.eq_nil_of_length_eq_zero (by simp at *;omega);rw[hes];have hl0:len=0:=by simpa using h0
            subst hl0;obtain⟨ρ',g1,g2,g3⟩:=jh (fN hS r) (hO.set hblk (by simp)) (zC P el);have hnI:nI Ow.N (h.set r .dead)=nI Ow.N h:=by cases Ow.N<;>simp[nI]
            rw[hnI]at g3;refine⟨w,F,ρ',.slice a 0 0,?_,by simpa using RV.slP (nI Ow.N h) none a g3 (.inl rfl),by simpa using g1,g2⟩;have hlen:=k1.len w;have hcl:=k1.cells;have hn0:news=[]:=List.eq_nil_of_length_eq_zero (by simpa using k1.newsLen);subst hn0;simp only[List.length_nil]at hlen hcl;rcases k1.kind with⟨e',hk⟩|hk<;>cases a <;>
             simp[Builtin.append_,zF hty,zF hk,run_sizeOf i1,hlen,hcl,storeCells]
           -- there is no room
           have grows:∀ (a:Option Addr) (c:Nat) (olds:List Value),us=.slice a len c→c<len+xs.length→(Builtin.firstCells inf.size len (.slice a len c)).run P w.drew=.ok olds.toArray w.drew→RTs w F olds (es.drop off).flatten→(∀ e∈es.drop off,e.length=zC P el) →
            xx P w F ρ Ow (Builtin.append_ #[ty,tx] rt #[us,ux]) (.sl (nI Ow.N h) 0 (len+xs.length) none) (nH Ow.N (h.set r .dead) (.ts (zC P el) (es.drop off++xs))):=by
            intro a c olds hus hlt hfirst holds hlens;subst hus;have hall:∀ e∈es.drop off++xs,e.length=inf.size:=fun e he=>by
             rw[hszi];rcases List.mem_append.1 he with h1|h1
             · exact hlens e h1
             · exact k3 e h1
            obtain⟨ρ',g1,g2,g3⟩:=Yt hS hO i1 i2 i3 (some r) (fun k hk=>by cases hk;exact⟨_,hblk,by simp⟩) (olds:=olds) (news:=news) (es:=es.drop off++xs) hall (need:=len+xs.length) (c0:=c) (by simp;omega) hlt (by rw[List.flatten_append];exact yY holds k2) (by omega);refine⟨_,F,ρ',_,run_append_grow_src w ty tx rt el inf zv hty i1 i2 a len c olds hfirst ux xs.length news (by rw[hszi];exact k1) hlt (by unfold ya at c5;omega) (lr hlt (by rw[← hby];exact c4)),g3,?_,g2⟩;rw[hszi]at g1;exact g1
           rcases hS.blk r _ hblk with⟨L,h1,h2,h3,h4,h5⟩|⟨h1,h2⟩
           · cases hs with
             | slP r cap a hρ=>rw[h1]at hρ;cases hρ
             | sl r off len cap L' a c hρ ha hl hn hc0 hc1 hzz =>
              rw[h1]at hρ;cases hρ
              by_cases hroom:len+xs.length≤c
              · by_cases hce:c=0
                · have hl0:len=0:=by omega
                  subst hce;subst hl0;exact empty (by omega) a rfl
                · obtain rfl:=ha.resolve_right hce;obtain⟨ρ',g1,g2,g3,g4⟩:=WK hS hO hblk h1 h2 h3 h4 h5 (len:=len) (c:=c) c3 k2 k3 hroom (hzz hce);refine⟨_,F,ρ',_,?_,g3,g1,g2⟩;have:=run_append_room_src (P:=P) w ty tx rt el inf hty i1 L.b (L.o+off*L.sz) len c ux xs.length news (by rw[hszi];exact k1) hroom
                   (fun j hj=>by rw[hszi,← h2];exact (g4 j hj).1) (fun j hj=>by rw[hszi,← h2];exact (g4 j hj).2)
                  rw[hszi,← h2]at this;exact this
              · have h3':=h3;obtain⟨hn',hl',cc,el',fr,hh,hsz,hf,hzz',hcc⟩:=h3;have hlens:∀ e∈es.drop off,e.length=zC P el:=fun e he=>by rw[hl' e (List.mem_of_mem_drop he),h2]
                by_cases hl0:len=0
                · subst hl0;have hes:es.drop off=[]:=List.eq_nil_of_length_eq_zero (by simp;omega);refine grows a c [] rfl (by omega) ?_ (by rw[hes];exact .nil) hlens
                  cases a<;>simp[Builtin.firstCells,loadCells,loadCellsFrom]
                · have hce:c≠0:=by omega
                  obtain rfl:=ha.resolve_right hce;have hdl:=w9 hlens;have hlook:∀ k,k<len*zC P el→∃ y u,(es.drop off).flatten[k]? = some y∧RT w F u y∧w.cell? ⟨L.b,L.o+off*L.sz+k,none⟩=some u:=fun k hk=>by
                   have hpos:0<zC P el:=by omega
                   have d1:k / zC P el<len:=(Nat.div_lt_iff_lt_mul hpos).2 hk;have d2:k % zC P el<zC P el:=Nat.mod_lt _ hpos;have d3:=Nat.div_add_mod k (zC P el);have hil:off+k / zC P el<es.length:=by omega
                   have hcl:=hl' _ (List.getElem_mem hil);have hj:k % zC P el<(es[off+k / zC P el]'hil).length:=by rw[hcl,h2];exact d2
                   have hget:=flat_get hlens (i:=k / zC P el) (j:=k % zC P el) (cs:=es[off+k / zC P el]'hil) (by rw[List.getElem?_drop];exact List.getElem?_eq_getElem hil) (List.getElem?_eq_getElem hj);rw[show k / zC P el*zC P el+k % zC P el=k by rw[Nat.mul_comm];omega]at hget;obtain⟨u,hu,hru⟩:=hcc _ _ _ _ (List.getElem?_eq_getElem hil) (List.getElem?_eq_getElem hj);refine⟨_,u,hget,hru,?_⟩;unfold World.cell?;rw[hh];simp only[Option.isSome_none];rw[show L.o+off*L.sz+k=L.o+((off+k / zC P el)*L.sz+k % zC P el) by
                    rw[Nat.add_mul,h2,Nat.mul_comm (k / zC P el)];omega]
                   simpa using hu
                  refine grows _ c ((List.range (len*zC P el)).map fun k=>(w.cell? ⟨L.b,L.o+off*L.sz+k,none⟩).getD undef) rfl (by omega) ?_ (x6 (by rw[List.length_map,List.length_range,hdl,List.length_drop,← c3];congr 1;omega) fun k u v hu hv=>?_) hlens
                  · refine run_firstCells_some w.drew inf.size len _ len c _ (by simp[hszi]) fun j u hj=>?_
                    have hjl:j<len*zC P el:=by have:=(List.getElem?_eq_some_iff.1 hj).1;simpa using this
                    obtain⟨y,u',_,_,e3⟩:=hlook j hjl;simp[hjl,e3]at hj;subst hj;rw[Addr.add_mid];exact e3
                  · have hkl:k<len*zC P el:=by have:=(List.getElem?_eq_some_iff.1 hu).1;simpa using this
                    obtain⟨y,u',e1,e2,e3⟩:=hlook k hkl;simp[hkl,e3]at hu;subst hu;rw[e1]at hv;cases hv;exact e2
           · subst h2
             cases hs with
             | sl r off len cap L a c hρ=>rw[h1]at hρ;cases hρ
             | slP r cap a hρ hcp =>
              by_cases hn:xs.length=0
              · exact empty (by omega) a rfl
              · refine grows a 0 [] rfl (by omega) ?_ .nil (fun e he=>by simp at he)
                cases a<;>simp[Builtin.firstCells,loadCells,loadCellsFrom]
         · cases hc
       · cases hc
     · cases hc
end Go.Proofs.YtefkoljdebekdaaGreatDoor.E
/- What rows become under other numbers: for loops, for calls on a caller's own rows; what rows show while nobody writes them. Conditions: those of each lemma. -/
namespace Go.Proofs.YtefkoljdebekdaaGreatDoor.E
variable {P:Program} {w:World} {F:Nat→Prop} {ρ:y9} {Ow:Own} {h:Heap}
theorem Sc {ids:List Nat}{r i:Nat}(hi:idx ids r=some i):ids[i]? = some r:=by
 unfold idx at hi
 split at hi
 · rename_i hlt
   cases hi;rw[List.getElem?_eq_getElem hlt,List.getElem_idxOf hlt]
 · cases hi
def y8 (ρ:y9)(ids:List Nat):y9:=fun i=>(ids[i]?).bind ρ
mutual
theorem lf {mp:Nat→Option Nat}{ρ2:y9}(hm:∀ r r',mp r=some r'→∀ l,ρ r=some l→ρ2 r'=some l):∀ (v:V) {u:Value},RV w F ρ u v→RV w F ρ2 u (ren mp v)
 | .sl r off len cap,u,hu=>by
  simp only[ren]
  split
  · rename_i r' hr
    cases hu with
    | sl r off len cap L a c hρ ha h1 hn hc0 hc1 hz=>exact .sl r' off len cap L a c (hm _ _ hr _ hρ) ha h1 hn hc0 hc1 hz
    | slP r cap a hρ hc=>exact .slP r' cap a (hm _ _ hr _ hρ) hc
  · exact .bad _
 | .ptr r i j,u,hu=>by
  simp only[ren]
  split
  · rename_i r' hr
    cases hu with
    | ptr r i j L hρ=>exact .ptr r' i j L (hm _ _ hr _ hρ)
  · exact .bad _
 | .agg cs,u,hu=>by
  simp only[ren]
  cases hu with
  | agg vs cs g hs hg hr=>exact RV.eI (rl hm cs (xp hs hg hr))
 | .tup cs,u,hu=>by
  simp only[ren]
  cases hu with
  | tup vs cs g hs hg hr=>exact RV.gN (rl hm cs (xp hs hg hr))
 | .fn f cs,u,hu=>by
  simp only[ren]
  cases hu with
  | fn f vs cs g hs hg hr=>exact RV.fn' (rl hm cs (xp hs hg hr))
 | .t x,u,hu=>by simp only[ren];exact fm hu
 | .nil sz,u,hu=>by simp only[ren];cases hu;exact .nil sz
 | .o x,u,hu=>by simp only[ren];exact .o _ _
 | .und,u,hu=>by simp only[ren];generalize hz:V.und=z at hu;cases hu<;>first|exact .und|cases hz
 | .bad,u,hu=>by simp only[ren];exact .bad _
theorem rl {mp:Nat→Option Nat}{ρ2:y9}(hm:∀ r r',mp r=some r'→∀ l,ρ r=some l→ρ2 r'=some l):∀ (vs:List V) {us:List Value},RVs w F ρ us vs→RVs w F ρ2 us (ren.rens mp vs)
 | [],us,hu=>by cases hu;simp only[ren.rens];exact .nil
 | v::vs,us,hu=>by
  cases hu with
  | cons h1 h2=>simp only[ren.rens];exact .cons (lf hm v h1) (rl hm vs h2)
end
theorem kT (ids:List Nat)(r r':Nat)(hr:idx ids r=some r')(l:Option Loc)(hl:ρ r=some l):y8 ρ ids r'=some l:=by
 have hg:=Sc hr;simp[y8,hg,hl]
theorem Qa (ids:List Nat)(v:V){u:Value}(hu:RV w F ρ u v):RV w F (y8 ρ ids) u (ren (idx ids) v):=lf (kT ids) v hu
theorem ZB (ids:List Nat)(vs:List V){us:List Value}(hu:RVs w F ρ us vs):RVs w F (y8 ρ ids) us (ren.rens (idx ids) vs):=rl (kT ids) vs hu
theorem dM (m:Nat→Option Nat):∀ vs:List V,(ren.rens m vs).length=vs.length
 | []=>rfl
 | v::vs=>by simp[ren.rens,dM m vs]
theorem o5 (m:Nat→Option Nat):∀ (vs:List V) (j:Nat),(ren.rens m vs)[j]? = (vs[j]?).map (ren m)
 | [],j=>by simp[ren.rens]
 | v::vs,0=>by simp[ren.rens]
 | v::vs,j+1=>by simp[ren.rens,o5 m vs j]
theorem dO {mp : Nat → Option Nat} {ρ2 : y9} {Ow2 : Own} (hm : ∀ r r', mp r = some r' → ∀ l, ρ r = some l → ρ2 r' = some l) {r i : Nat} {b : Blk} (hl : b ≠ .dead → ρ2 i = ρ r) (hOw : ∀ L, writes b = true → ρ r = some (some L) → Ow L.b → Ow2 L.b)
 (hb:RB w F ρ Ow r b):RB w F ρ2 Ow2 i (zj mp b):=by
 cases b with
 | ts sz es =>
  have hl:=hl (by simp);rcases hb with⟨L,h1,h2,h3,h4,h5⟩|⟨h1,h2⟩
  · exact .inl ⟨L,hl.trans h1,h2,h3,h4,hOw L rfl h1 h5⟩
  · exact .inr ⟨hl.trans h1,h2⟩
 | fz sz es =>
  have hl:=hl (by simp);rcases hb with⟨L,h1,h2,h3,h4⟩|⟨h1,h2⟩
  · exact .inl ⟨L,hl.trans h1,h2,h3,h4⟩
  · exact .inr ⟨hl.trans h1,h2⟩
 | dead=>trivial
 | vs sz es =>
  have hl:=hl (by simp);rcases hb with⟨L,h1,h2,h3,h4,h5⟩|⟨h1,h2⟩
  · refine .inl ⟨L,hl.trans h1,h2,?_,h4,hOw L rfl h1 h5⟩;obtain⟨k1,k2,c,el,fr,k3,k4,k5,k6,k7⟩:=h3;refine⟨by simpa using k1,fun e he=>?_,c,el,fr,k3,k4,k5,k6,fun i' j cs x hi' hj=>?_⟩
    · simp only[List.mem_map]at he;obtain⟨e0,he0,rfl⟩:=he;rw[dM];exact k2 e0 he0
    · rw[List.getElem?_map]at hi'
      cases hes:es[i']? with
      | none=>simp[hes]at hi'
      | some e0 =>
       simp[hes]at hi';subst hi';rw[o5]at hj
       cases he0:e0[j]? with
       | none=>simp[he0]at hj
       | some x0 =>
        simp[he0]at hj;subst hj;obtain⟨u,hu,hru⟩:=k7 i' j e0 x0 hes he0;exact⟨u,hu,lf hm x0 hru⟩
  · refine .inr ⟨hl.trans h1,by simp[h2]⟩
theorem TF {r:Nat}{b:Blk}(ids:List Nat){i:Nat}(hi:ids[i]? = some r)(hb:RB w F ρ Ow r b):RB w F (y8 ρ ids) Ow i (zj (idx ids) b) :=
 dO (kT ids) (fun _=>by simp[y8,hi]) (fun _ _ _ h=>h) hb
theorem xQ (m:Nat→Option Nat)(b:Blk):writes (zj m b)=writes b:=by cases b<;>rfl
theorem vH:∀ (l seen:List Nat),seen.Nodup→(yL seen l).Nodup
 | [],seen,hs=>hs
 | r::l,seen,hs=>by
  simp only[yL]
  split
  · exact vH l seen hs
  · rename_i hr;refine vH l _ ?_;rw[List.nodup_append];exact⟨hs,by simp,fun a ha b hb=>by simp at hb;subst hb;exact fun e=>hr (e▸ha)⟩
theorem rm (h:Heap):∀ (n:Nat) (ids:List Nat),ids.Nodup→(reach h n ids).Nodup
 | 0,ids,hs=>hs
 | n+1,ids,hs=>by simp only[reach];exact rm h n _ (vH _ _ hs)
theorem sr:∀ (l seen:List Nat),∃ t,yL seen l=seen++t
 | [],seen=>⟨[],by simp[yL]⟩
 | r::l,seen=>by
  simp only[yL]
  split
  · exact sr l seen
  · obtain⟨t,ht⟩:=sr l (seen++[r]);exact⟨r::t,by rw[ht];simp⟩
theorem nq (h:Heap):∀ (n:Nat) (ids:List Nat),∃ t,reach h n ids=ids++t
 | 0,ids=>⟨[],by simp[reach]⟩
 | n+1,ids=>by
  simp only[reach];obtain⟨t,ht⟩:=sr (ids.flatMap (xz h)) ids;obtain⟨t',ht'⟩:=nq h n (yL ids (ids.flatMap (xz h)));exact⟨t++t',by rw[ht',ht];simp⟩
theorem pc (m:Nat)(vals:List V)(h:Heap)(r:Nat)(hr:r<m):(reach h 3 (yL (List.range m) (refs.refss vals)))[r]? = some r:=by
 obtain⟨t,ht⟩:=sr (refs.refss vals) (List.range m);obtain⟨t',ht'⟩:=nq h 3 (yL (List.range m) (refs.refss vals));rw[ht',ht,List.append_assoc,List.getElem?_append_left (by simpa using hr)];simp[hr]
def wz (ids:List Nat)(h:Heap):Heap:=ids.map fun r=>zj (idx ids) (h[r]?.getD .dead)
theorem ren_o {mp:Nat→Option Nat}{v:V}{x:T}(h:ren mp v=.o x):v=.o x:=by
 cases v with
 | sl r off len cap=>simp only[ren]at h;split at h<;>cases h
 | ptr r i j=>simp only[ren]at h;split at h<;>cases h
 | o y=>simpa [ren] using h
 | _=>simp[ren]at h
theorem dN {mp:Nat→Option Nat}{b:Blk}{sz:Nat}{es:List (List V)}{i j:Nat}{cs:List V}{x:T}(hb:zj mp b=.vs sz es)(hi:es[i]? = some cs)(hj:cs[j]? = some (.o x)) :
 ∃ es0 cs0,b=.vs sz es0∧es0[i]? = some cs0∧cs0[j]? = some (.o x):=by
 cases b with
 | vs sz0 es0 =>
  simp only[zj]at hb
  cases hb;rw[List.getElem?_map]at hi
  cases he:es0[i]? with
  | none=>simp[he]at hi
  | some cs0 =>
   simp[he]at hi;subst hi;rw[o5]at hj
   cases hv:cs0[j]? with
   | none=>simp[hv]at hj
   | some v =>
    simp[hv]at hj;exact⟨es0,cs0,rfl,he,by rw[hv,ren_o hj]⟩
 | _=>simp[zj]at hb
theorem cu {mp:Nat→Option Nat}{sz:Nat}{es:List (List V)}{i j:Nat}{cs:List V}{x:T}(hi:es[i]? = some cs)(hj:cs[j]? = some (.o x)) :
 ∃ es' cs',zj mp (.vs sz es)=.vs sz es'∧es'[i]? = some cs'∧cs'[j]? = some (.o x) :=
 ⟨_,_,rfl,by rw[List.getElem?_map,hi];rfl,by rw[o5,hj];rfl⟩
theorem nJ {ids:List Nat}{k:Nat}{b:Blk}(hk:(wz ids h)[k]? = some b):∃ r,ids[k]? = some r∧b=zj (idx ids) (h[r]?.getD .dead):=by
 simp only[wz,List.getElem?_map]at hk
 cases hr:ids[k]? with
 | none=>simp[hr]at hk
 | some r=>simp[hr]at hk;exact⟨r,rfl,hk.symm⟩
theorem XU {ids:List Nat}{k i j:Nat}{x:T}(ho:oAt (wz ids h) k i j x):∃ r,ids[k]? = some r∧oAt h r i j x:=by
 obtain⟨sz,es,cs,h1,h2,h3⟩:=ho;obtain⟨r,hr,hb⟩:=nJ h1;obtain⟨es0,cs0,e1,e2,e3⟩:=dN hb.symm h2 h3
 cases hx:h[r]? with
 | none=>rw[hx]at e1;cases e1
 | some b0=>rw[hx]at e1;simp at e1;subst e1;exact⟨r,hr,sz,es0,cs0,hx,e2,e3⟩
theorem XK {ids:List Nat}{k r i j:Nat}{x:T}(hr:ids[k]? = some r)(ho:oAt h r i j x):oAt (wz ids h) k i j x:=by
 obtain⟨sz,es,cs,h1,h2,h3⟩:=ho;obtain⟨es',cs',e1,e2,e3⟩:=cu (mp:=idx ids) (sz:=sz) h2 h3;refine⟨sz,es',cs',?_,e2,e3⟩;simp[wz,hr,h1,e1]
theorem cx {ids:List Nat}(hnd:ids.Nodup){i j r:Nat}(hi:ids[i]? = some r)(hj:ids[j]? = some r):i=j:=by
 obtain⟨x1,x2⟩:=List.getElem?_eq_some_iff.1 hi;obtain⟨y1,y2⟩:=List.getElem?_eq_some_iff.1 hj;have hpw:=List.pairwise_iff_getElem.1 hnd;rcases Nat.lt_or_ge i j with hlt|hge
 · exact absurd (x2.trans y2.symm) (hpw i j x1 y1 hlt)
 · rcases Nat.lt_or_ge j i with hlt|hge'
   · exact absurd (y2.trans x2.symm) (hpw j i y1 x1 hlt)
   · omega
def pz (ids:List Nat)(φ:Nat→Nat→Nat→Nat→Prop):Nat→Nat→Nat→Nat→Prop:=fun k i j b=>∃ r,ids[k]? = some r∧φ r i j b
theorem dV {ids:List Nat}(hnd:ids.Nodup){φ:Nat→Nat→Nat→Nat→Prop}(hφ:sk w F ρ Ow h φ):sk w F (y8 ρ ids) Ow (wz ids h) (pz ids φ):=by
 refine⟨fun k i j x ho=>?_,fun k i j b hb=>?_,fun k i j k' i' j' b h1 h2=>?_,fun k i j b r' b' L' h1 h2 h3 h4=>?_⟩
 · obtain⟨r,hr,ho0⟩:=XU ho;obtain⟨L,u,k1,k2,k3⟩:=hφ.cell r i j x ho0;exact⟨L,u,by simp[y8,hr,k1],k2,k3.mono fun b hb=>⟨⟨r,hr,hb⟩,rfl⟩⟩
 · obtain⟨r,hr,hb⟩:=hb;obtain⟨⟨x,ho⟩,k2⟩:=hφ.act r i j b hb;exact⟨⟨x,XK hr ho⟩,k2⟩
 · obtain⟨r,hr,h1⟩:=h1;obtain⟨r',hr',h2⟩:=h2;obtain⟨rfl,k2⟩:=hφ.sep r i j r' i' j' b h1 h2;exact⟨cx hnd hr hr',k2⟩
 · obtain⟨r,hr,h1⟩:=h1;obtain⟨r0,hr0,rfl⟩:=nJ h2;rw[xQ]at h3
   cases hb':h[r0]? with
   | none=>simp[hb',writes]at h3
   | some b1 =>
    simp[hb']at h3;exact hφ.apart r i j b r0 b1 L' h1 hb' h3 (by rw[← h4];simp[y8,hr0])
theorem o9 {ids:List Nat}(hnd:ids.Nodup)(hS:St w F ρ Ow h):St w F (y8 ρ ids) Ow (wz ids h):=by
 refine⟨fun i b hi=>?_,fun i j b b' L L' hi hj hw hw' hL hL' heq=>?_,hS.fsz,fun i hi=>?_,?_⟩
 rotate_left 3
 · obtain⟨φ,hφ⟩:=hS.own;exact⟨_,dV hnd hφ⟩
 all_goals unfold wz at *
 · simp only[List.getElem?_map]at hi
   cases hr:ids[i]? with
   | none=>simp[hr]at hi
   | some r =>
    simp[hr]at hi;subst hi
    cases hb:h[r]? with
    | none=>simp[zj];trivial
    | some b0=>simp;exact TF ids hr (hS.blk r b0 hb)
 · simp only[List.getElem?_map]at hi hj
   cases hr:ids[i]? with
   | none=>simp[hr]at hi
   | some r =>
   cases hr':ids[j]? with
   | none=>simp[hr']at hj
   | some r' =>
    simp[hr]at hi;simp[hr']at hj;subst hi;subst hj;rw[xQ]at hw hw'
    cases hb:h[r]? with
    | none=>simp[hb,writes]at hw
    | some b0 =>
    cases hb':h[r']? with
    | none=>simp[hb',writes]at hw'
    | some b1 =>
     simp[hb]at hw;simp[hb']at hw';have e1:ρ r=some (some L):=by rw[← hL];simp[y8,hr]
     have e2:ρ r'=some (some L'):=by rw[← hL'];simp[y8,hr']
     have:=hS.inj r r' b0 b1 L L' hb hb' hw hw' e1 e2 heq;subst this;have hi1:=(List.getElem?_eq_some_iff.1 hr);have hj1:=(List.getElem?_eq_some_iff.1 hr');obtain⟨x1,x2⟩:=hi1;obtain⟨y1,y2⟩:=hj1;have hpw:=List.pairwise_iff_getElem.1 hnd;rcases Nat.lt_or_ge i j with hlt|hge
     · exact absurd (x2.trans y2.symm) (hpw i j x1 y1 hlt)
     · rcases Nat.lt_or_ge j i with hlt|hge'
       · exact absurd (y2.trans x2.symm) (hpw j i y1 x1 hlt)
       · omega
 · simp only[List.length_map]at hi;simp[y8,List.getElem?_eq_none hi]
theorem fI {m:Nat}{vals:List V}(hS:St w F ρ Ow h){us:List Value}(hu:RVs w F ρ us vals) :
 ∃ ρ',RVs w F ρ' us (yj m vals h).1∧St w F ρ' Ow (yj m vals h).2∧∀ r,r<m→ρ' r=ρ r:=by
 have hfirst:=pc m vals h;have hnd:(reach h 3 (yL (List.range m) (refs.refss vals))).Nodup:=rm h 3 _ (vH _ _ List.nodup_range);exact⟨y8 ρ _,ZB _ vals hu,o9 hnd hS,fun r hr=>by simp[y8,hfirst r hr]⟩
def zO:y9:=fun _=>none
theorem kb (ρ:y9):Ext zO ρ:=fun _ _ h=>by cases h
def vt (Ow:Own)(w:World)(ρ:y9)(h:Heap)(φ:Nat→Nat→Nat→Nat→Prop):Own :=
 own fun b=>Ow b∧(w.heap.size≤b∨(∃ i bl L,h[i]? = some bl∧writes bl=true∧ρ i=some (some L)∧L.b=b)∨∃ r i j,φ r i j b)
theorem TL {ids:List Nat}(hS:St w F (y8 ρ ids) Ow (wz ids h)){φ:Nat→Nat→Nat→Nat→Prop}(hφ:sk w F (y8 ρ ids) Ow (wz ids h) φ) :
 St w F (y8 ρ ids) (vt Ow w (y8 ρ ids) (wz ids h) φ) (wz ids h):=by
 refine⟨fun r b hr=>?_,hS.inj,hS.fsz,hS.out,φ,⟨hφ.cell,fun r i j b hb=>?_,hφ.sep,hφ.apart⟩⟩
 rotate_left
 · obtain⟨k1,k2,k3,k4⟩:=hφ.act r i j b hb;exact⟨k1,k2,⟨k3,.inr (.inr ⟨r,i,j,hb⟩)⟩,k4⟩
 have h0:=hS.blk r b hr;have sub:∀ L,y8 ρ ids r=some (some L)→writes b=true→Ow L.b→(vt Ow w (y8 ρ ids) (wz ids h) φ) L.b:=fun L h1 h2 h3=>⟨h3,.inr (.inl ⟨r,b,L,hr,h2,h1,rfl⟩)⟩
 cases b with
 | ts sz es =>
  rcases h0 with⟨L,h1,h2,h3,h4,h5⟩|h0
  · exact .inl ⟨L,h1,h2,h3,h4,sub L h1 rfl h5⟩
  · exact .inr h0
 | vs sz es =>
  rcases h0 with⟨L,h1,h2,h3,h4,h5⟩|h0
  · exact .inl ⟨L,h1,h2,h3,h4,sub L h1 rfl h5⟩
  · exact .inr h0
 | fz sz es=>exact h0
 | dead=>trivial
theorem rS {k:Nat}:xG h k=true↔∃ b,h[k]? = some b∧b≠.dead:=by
 unfold xG
 cases hk:h[k]? with
 | none=>simp
 | some b=>cases b<;>simp
theorem xg (mp:Nat→Option Nat)(h0:Heap):∀ (ids:List Nat) (bs h:Heap),(z1 mp h0 ids bs h).length=h.length
 | [],bs,h=>by simp[z1]
 | i::is,[],h=>by simp[z1]
 | i::is,b::bs,h=>by simp only[z1];rw[xg];split<;>simp
theorem wX (mp:Nat→Option Nat)(h0:Heap){k:Nat}:∀ (ids:List Nat) (bs h:Heap),(k∈ids→xG h0 k=false)→(z1 mp h0 ids bs h)[k]? = h[k]?
 | [],bs,h,_=>by simp[z1]
 | i::is,[],h,_=>by simp[z1]
 | i::is,b::bs,h,hk=>by
  simp only[z1];rw[wX mp h0 is bs _ fun hx=>hk (by simp[hx])]
  split
  · rename_i hl
    by_cases e:i=k
    · subst e;rw[hk (by simp)]at hl;cases hl
    · exact List.getElem?_set_ne e
  · rfl
theorem pf (mp:Nat→Option Nat)(h0:Heap){k:Nat}(hl:xG h0 k=true):∀ (ids:List Nat) (bs h:Heap) (j:Nat) (b:Blk),ids.Nodup→ids[j]? = some k→bs[j]? = some b→k<h.length→(z1 mp h0 ids bs h)[k]? = some (zj mp b)
 | [],bs,h,j,b,_,hi,_,_=>by simp at hi
 | i::is,[],h,j,b,_,_,hb,_=>by simp at hb
 | i :: is, b0 :: bs, h, j, b, hnd, hi, hb, hk => by
  simp only[z1];have hnd':=List.nodup_cons.1 hnd
  cases j with
  | zero =>
   simp at hi hb;subst hi;subst hb;rw[wX mp h0 is bs _ fun hx=>absurd hx hnd'.1,if_pos hl];simp[hk]
  | succ j =>
   refine pf mp h0 hl is bs _ j b hnd'.2 (by simpa using hi) (by simpa using hb) ?_
   split<;>simpa using hk
theorem iE {ids : List Nat} (hnd : ids.Nodup) (hS : St w F ρ Ow h) {φ : Nat → Nat → Nat → Nat → Prop} (hφ : sk w F ρ Ow h φ) (hz : ∀ r, Ow.z r → r < h.length) {w' : World} {F' : Nat → Prop} {ρ' : y9} {h1 h2 : Heap} {u : Value} {v v2 : V} {N : Option Nat} (hb : x7 N ids v h1 h = some (v2, h2))
 (hu:RV w' F' ρ' u v) (hS1:St w' F' ρ' (vt Ow w (y8 ρ ids) (wz ids h) (pz ids φ)) h1) (hN:Nxt (vt Ow w (y8 ρ ids) (wz ids h) (pz ids φ)) w F zO w' F' zO) (hk:∀ r l,r<ids.length→y8 ρ ids r=some l→ρ' r=some l) :
 ∃ ρ2,RV w' F' ρ2 u v2∧St w' F' ρ2 Ow h2∧Nxt Ow w F ρ w' F' ρ2:=by
 unfold x7 at hb
 split at hb
 · cases hb
 rename_i hc;simp only[Bool.or_eq_true,decide_eq_true_eq,not_or,Nat.not_lt]at hc;obtain⟨hlen,-⟩:=hc
 cases hb
 let ρ2:y9:=fun r=>if r<h.length then ρ r else ρ' (ids.length+(r - h.length))
 have lo:∀ r,r<h.length→ρ2 r=ρ r:=fun r hr=>if_pos hr
 have hi:∀ t,ρ2 (h.length+t)=ρ' (ids.length+t):=fun t=>by
  show (if h.length+t<h.length then _ else _)=_
  rw[if_neg (by omega)];congr 1;omega
 have hext:Ext ρ ρ2:=fun r l hl=>by
  rcases Nat.lt_or_ge r h.length with h1|h1
  · rw[lo r h1];exact hl
  · rw[hS.out r h1]at hl;cases hl
 -- a live row that came in
 have come:∀ j k,ids[j]? = some k→xG h k=true→k<h.length∧ρ2 k=ρ' j∧∃ l,ρ k=some l:=fun j k hj hl=>by
  obtain⟨b,hb,hne⟩:=rS.1 hl;have hkl:=(List.getElem?_eq_some_iff.1 hb).1;obtain⟨l,hl'⟩:=(hS.blk k b hb).some hne;refine⟨hkl,?_,l,hl'⟩;rw[lo k hkl,hl'];exact (hk j l (List.getElem?_eq_some_iff.1 hj).1 (by simp[y8,hj,hl'])).symm
 have hm : ∀ r r', vB ids h r = some r' → ∀ l, ρ' r = some l → ρ2 r' = some l := fun r r' hr l hl => by
  unfold vB at hr
  split at hr
  · split at hr
    · rename_i k hk'
      split at hr
      · rename_i hlv
        cases hr;rw[(come r _ hk' hlv).2.1];exact hl
      · cases hr
    · cases hr
  · rename_i hge
    cases hr;rw[hi,show ids.length+(r - ids.length)=r by omega];exact hl
 -- rows by where they come from
 have orig : ∀ k b, (z1 (vB ids h) h ids h1 h ++ (h1.drop ids.length).map (zj (vB ids h)))[k]? = some b →
  (k<h.length∧h[k]? = some b∧(k∈ids→xG h k=false))∨∃ j b1,h1[j]? = some b1∧b=zj (vB ids h) b1∧ρ2 k=ρ' j∧((ids[j]? = some k∧xG h k=true)∨(ids.length≤j∧k=h.length+(j - ids.length))):=fun k b hkb=>by
  rcases Nat.lt_or_ge k h.length with hlt|hge
  · rw[List.getElem?_append_left (by rw[xg];exact hlt)]at hkb
    by_cases hin:k∈ids∧xG h k=true
    · right;obtain⟨j,hj⟩:=List.mem_iff_getElem?.1 hin.1;have hjl:=(List.getElem?_eq_some_iff.1 hj).1;have hbj:=List.getElem?_eq_getElem (show j<h1.length by omega);rw[pf _ h hin.2 ids h1 h j _ hnd hj hbj hlt]at hkb
      cases hkb;exact⟨j,_,hbj,rfl,(come j k hj hin.2).2.1,.inl ⟨hj,hin.2⟩⟩
    · have hoff:k∈ids→xG h k=false:=fun hx=>by simpa [hx] using hin
      rw[wX _ h ids h1 h hoff]at hkb;exact .inl ⟨hlt,hkb,hoff⟩
  · rw[List.getElem?_append_right (by rw[xg];exact hge),xg,List.getElem?_map,List.getElem?_drop]at hkb;right
    cases hx:h1[ids.length+(k - h.length)]? with
    | none=>simp[hx]at hkb
    | some b1 =>
     simp[hx]at hkb;refine⟨_,b1,hx,hkb.symm,?_,.inr ⟨by omega,by omega⟩⟩;have:=hi (k - h.length)
     rwa [show h.length+(k - h.length)=k by omega]at this
 have hOw:∀ b,(vt Ow w (y8 ρ ids) (wz ids h) (pz ids φ)) b→Ow b:=fun b hx=>hx.1
 -- a row that did not go in keeps its block
 have apart : ∀ k b, h[k]? = some b → (k ∈ ids → xG h k = false) → writes b = true → ∀ L, ρ k = some (some L) → ¬ (vt Ow w (y8 ρ ids) (wz ids h) (pz ids φ)) L.b := fun k b hb hoff hw L hL hx => by
  obtain⟨h3,h4,h5⟩:=(hS.blk k b hb).vX hw hL;obtain⟨_,hx|⟨i,bl,L',hi',hw',hL',he⟩|⟨kx,i,j,r,_,hφb⟩⟩:=hx
  · omega
  · simp only[wz,List.getElem?_map]at hi'
    cases hr:ids[i]? with
    | none=>simp[hr]at hi'
    | some r =>
     simp[hr]at hi';subst hi';rw[xQ]at hw'
     cases hb':h[r]? with
     | none=>simp[hb',writes]at hw'
     | some b' =>
      simp[hb']at hw';have e1:ρ r=some (some L'):=by rw[← hL'];simp[y8,hr]
      have:=hS.inj k r b b' L L' hb hb' hw hw' hL e1 he.symm;subst this;have hlv:=hoff (List.mem_of_getElem? hr);rw[hb']at hb;cases hb;have:xG h k=true:=rS.2 ⟨_,hb',by intro e;subst e;simp[writes]at hw⟩;rw[hlv]at this;cases this
  · exact hφ.apart r i j L.b k b L hφb hb hw hL rfl
 have hkeep:∀ k b,h[k]? = some b→(k∈ids→xG h k=false)→∀ L,ρ k=some (some L)→writes b=true→w'.heap[L.b]? = w.heap[L.b]? ∧ ¬ F' L.b:=fun k b hb hoff L hL hw=>by
  obtain⟨h3,h4,h5⟩:=(hS.blk k b hb).vX hw hL;have hno:=apart k b hb hoff hw L hL;exact⟨hN.keep L.b h5 hno,fun hx=>(hN.new L.b hx).elim h3 hno⟩
 refine⟨ρ2,lf hm v hu,⟨fun k b hkb=>?_,fun k k' b b' L L' hkb hkb' hw hw' hL hL' he=>?_,hS1.fsz,fun k hk'=>?_,?_⟩,⟨hN.os,hN.tape,hN.output,hN.size,fun b hb ho=>hN.keep b hb fun hx=>ho (hOw b hx),hN.agree,hN.grow,fun b hb=>(hN.new b hb).imp id (hOw b),hext,fun r hr=>lo r (hz r hr)⟩⟩
 · rcases orig k b hkb with⟨h3,h4,h5⟩|⟨j,b1,h3,rfl,h5,h6⟩
   · exact (hS.blk k b h4).mono hN.agree hN.grow hext (hkeep k b h4 h5)
   · exact dO hm (fun _=>h5) (fun L _ _ hx=>hOw _ hx) (hS1.blk j b1 h3)
 · have toOld:∀ k b L,h[k]? = some b→ρ2 k=some (some L)→writes b=true→ρ k=some (some L):=fun k b L hb hL hw=>by
    rw[← lo k (List.getElem?_eq_some_iff.1 hb).1];exact hL
   rcases orig k b hkb with⟨h3,h4,h5⟩|⟨j,b1,h3,rfl,h5,h6⟩
   · have hL0:=toOld k b L h4 hL hw;rcases orig k' b' hkb' with⟨g3,g4,g5⟩|⟨j',b1',g3,rfl,g5,g6⟩
     · exact hS.inj k k' b b' L L' h4 g4 hw hw' hL0 (toOld k' b' L' g4 hL' hw') he
     · exfalso;rw[xQ]at hw';rw[g5]at hL';have:=((hS1.blk j' b1' g3).vX hw' hL').2.1;rw[← he]at this;exact apart k b h4 h5 hw L hL0 this
   · rw[xQ]at hw;rw[h5]at hL;rcases orig k' b' hkb' with⟨g3,g4,g5⟩|⟨j',b1',g3,rfl,g5,g6⟩
     · exfalso;have:=((hS1.blk j b1 h3).vX hw hL).2.1;rw[he]at this;exact apart k' b' g4 g5 hw' L' (toOld k' b' L' g4 hL' hw') this
     · rw[xQ]at hw';rw[g5]at hL';have:=hS1.inj j j' b1 b1' L L' h3 g3 hw hw' hL hL' he;subst this;rcases h6 with⟨h6,_⟩|⟨h6,h7⟩
       · rcases g6 with⟨g6,_⟩|⟨g6,_⟩
         · rw[h6]at g6;cases g6;rfl
         · have:=(List.getElem?_eq_some_iff.1 h6).1;omega
       · rcases g6 with⟨g6,_⟩|⟨_,g7⟩
         · have:=(List.getElem?_eq_some_iff.1 g6).1;omega
         · omega
 · simp only[List.length_append,xg,List.length_map,List.length_drop]at hk';have:ρ2 k=ρ' (ids.length+(k - h.length)):=by
    have:=hi (k - h.length)
    rwa [show h.length+(k - h.length)=k by omega]at this
   rw[this];exact hS1.out _ (by omega)
 · -- the owned cells
   obtain⟨φ1,hφ1⟩:=hS1.own
   let pos:Nat→Nat→Prop:=fun j k=>(ids[j]? = some k∧xG h k=true)∨(ids.length≤j∧k=h.length+(j - ids.length))
   have posρ:∀ j k,pos j k→ρ2 k=ρ' j:=fun j k hp=>by
    rcases hp with⟨p1,p2⟩|⟨p1,rfl⟩
    · obtain⟨b,hb,_⟩:=rS.1 p2;exact (come j k p1 p2).2.1
    · have:=hi (j - ids.length)
      rwa [show ids.length+(j - ids.length)=j by omega]at this
   have posj:∀ j j' k,pos j k→pos j' k→j=j':=fun j j' k h3 h4=>by
    rcases h3 with⟨p1,p2⟩|⟨p1,p2⟩<;>rcases h4 with⟨q1,q2⟩|⟨q1,q2⟩
    · exact cx hnd p1 q1
    · have:=(come j k p1 p2).1;omega
    · have:=(come j' k q1 q2).1;omega
    · omega
   have posk:∀ j k k',pos j k→pos j k'→k=k':=fun j k k' h3 h4=>by
    rcases h3 with⟨p1,p2⟩|⟨p1,p2⟩<;>rcases h4 with⟨q1,q2⟩|⟨q1,q2⟩
    · rw[p1]at q1;cases q1;rfl
    · have:=(List.getElem?_eq_some_iff.1 p1).1;omega
    · have:=(List.getElem?_eq_some_iff.1 q1).1;omega
    · omega
   have lay:∀ j k b1,pos j k→h1[j]? = some b1→(z1 (vB ids h) h ids h1 h++(h1.drop ids.length).map (zj (vB ids h)))[k]? = some (zj (vB ids h) b1):=fun j k b1 hp hb=>by
    rcases hp with⟨p1,p2⟩|⟨p1,rfl⟩
    · have hkl:=(come j k p1 p2).1;rw[List.getElem?_append_left (by rw[xg];exact hkl)];exact pf _ h p2 ids h1 h j _ hnd p1 hb hkl
    · rw[List.getElem?_append_right (by rw[xg];omega),xg,List.getElem?_map,List.getElem?_drop,show ids.length+(h.length+(j - ids.length) - h.length)=j by omega,hb];rfl
   have stay:∀ k b,h[k]? = some b→(k∈ids→xG h k=false)→(z1 (vB ids h) h ids h1 h++(h1.drop ids.length).map (zj (vB ids h)))[k]? = some b:=fun k b hb hoff=>by
    rw[List.getElem?_append_left (by rw[xg];exact (List.getElem?_eq_some_iff.1 hb).1),wX _ h ids h1 h hoff];exact hb
   have oldb:∀ k i c b,(k∈ids→xG h k=false)→φ k i c b→¬ (vt Ow w (y8 ρ ids) (wz ids h) (pz ids φ)) b:=fun k i c b hoff hb hx=>by
    obtain⟨⟨x,sz,es,cs,q1,_⟩,q2,q3,q4⟩:=hφ.act k i c b hb;obtain⟨_,hx|⟨i',bl,L',hi',hw',hL',he⟩|⟨kx,i',j',r,hr,hφb⟩⟩:=hx
    · omega
    · obtain⟨r,hr,rfl⟩:=nJ hi';rw[xQ]at hw'
      cases hb':h[r]? with
      | none=>simp[hb',writes]at hw'
      | some b' =>
       simp[hb']at hw';exact hφ.apart k i c b r b' L' hb hb' hw' (by rw[← hL'];simp[y8,hr]) he
    · obtain⟨rfl,_⟩:=hφ.sep k i c r i' j' b hb hφb;have hlv:=hoff (List.mem_of_getElem? hr);have:xG h k=true:=rS.2 ⟨_,q1,by simp⟩;rw[hlv]at this;cases this
   refine⟨fun k i c b=>(∃ j,pos j k∧φ1 j i c b)∨(k<h.length∧(k∈ids→xG h k=false)∧φ k i c b),⟨fun k i c x ho=>?_,fun k i c b hb=>?_,fun k i c k' i' c' b h3 h4=>?_,fun k i c b r' b' L' h3 h4 h5 h6 he=>?_⟩⟩
   · obtain⟨sz,es,cs,q1,q2,q3⟩:=ho;rcases orig k _ q1 with⟨p1,p2,p3⟩|⟨j,b1,p1,p2,p3,p4⟩
     · obtain⟨L,u,k1,k2,k3⟩:=hφ.cell k i c x ⟨sz,es,cs,p2,q2,q3⟩;refine⟨L,u,(lo k p1).trans k1,v7 (hkeep k _ p2 p3 L k1 rfl).1 k2,k3.mono fun b hb=>⟨.inr ⟨p1,p3,hb⟩,?_⟩⟩;exact hN.keep b (hφ.act k i c b hb).2.2.2 (oldb k i c b p3 hb)
     · obtain⟨es0,cs0,rfl,e2,e3⟩:=dN p2.symm q2 q3;obtain⟨L,u,k1,k2,k3⟩:=hφ1.cell j i c x ⟨sz,es0,cs0,p1,e2,e3⟩;exact⟨L,u,p3.trans k1,k2,k3.mono fun b hb=>⟨.inl ⟨j,p4,hb⟩,rfl⟩⟩
   · rcases hb with⟨j,hp,hb⟩|⟨p1,p2,hb⟩
     · obtain⟨⟨x,sz,es,cs,q1,q2,q3⟩,k2,k3,k4⟩:=hφ1.act j i c b hb;obtain⟨es',cs',e1,e2,e3⟩:=cu (mp:=vB ids h) (sz:=sz) q2 q3;exact⟨⟨x,sz,es',cs',by rw[lay j k _ hp q1,e1],e2,e3⟩,k2,hOw b k3,k4⟩
     · obtain⟨⟨x,sz,es,cs,q1,q2,q3⟩,k2,k3,k4⟩:=hφ.act k i c b hb;exact⟨⟨x,sz,es,cs,stay k _ q1 p2,q2,q3⟩,fun hx=>(hN.new b hx).elim k2 (oldb k i c b p2 hb),k3,Nat.lt_of_lt_of_le k4 hN.size⟩
   · rcases h3 with⟨j,hp,hb⟩|⟨p1,p2,hb⟩<;>rcases h4 with⟨j',hp',hb'⟩|⟨p1',p2',hb'⟩
     · obtain⟨rfl,k2⟩:=hφ1.sep j i c j' i' c' b hb hb';exact⟨posk j k k' hp hp',k2⟩
     · exact absurd (hφ1.act j i c b hb).2.2.1 (oldb k' i' c' b p2' hb')
     · exact absurd (hφ1.act j' i' c' b hb').2.2.1 (oldb k i c b p2 hb)
     · exact hφ.sep k i c k' i' c' b hb hb'
   · rcases orig r' b' h4 with⟨p1,p2,p3⟩|⟨j',b1,p1,rfl,p3,p4⟩
     · have hL0:ρ r'=some (some L'):=by rw[← lo r' p1];exact h6
       rcases h3 with⟨j,hp,hb⟩|⟨_,_,hb⟩
       · exact apart r' b' p2 p3 h5 L' hL0 (he▸(hφ1.act j i c b hb).2.2.1)
       · exact hφ.apart k i c b r' b' L' hb p2 h5 hL0 he
     · rw[xQ]at h5;rw[p3]at h6;rcases h3 with⟨j,hp,hb⟩|⟨_,q2,hb⟩
       · exact hφ1.apart j i c b j' b1 L' hb p1 h5 h6 he
       · exact oldb k i c b q2 hb (he▸((hS1.blk j' b1 p1).vX h5 h6).2.1)
theorem ej (hS:St w F ρ Ow h){r off len sz:Nat}{cap:Option Nat}{es:List (List T)}(hb:h[r]? = some (.ts sz es)∨h[r]? = some (.fz sz es)){u:Value}(hu:RV w F ρ u (.sl r off len cap)){F':Nat→Prop}(hF:∀ b,b<w.heap.size→F' b) :
 RT w F' u (.list sz ((es.drop off).take len)):=by
 have main:∀ L,ρ r=some (some L)→L.sz=sz→xw w L es (RT w F)→RT w F' u (.list sz ((es.drop off).take len)):=fun L h1 h2 h3=>by
  have hlt:L.b<w.heap.size:=by
   obtain⟨_,_,c,el,fr,hh,_⟩:=h3;exact (Array.getElem?_eq_some_iff.1 hh).1
  exact tH h1 hu h2 (h3.mono rfl fun u x hx=>hx.mono (fun _ _=>rfl) fun b hb=>hF b (hS.fsz b hb)) (hF _ hlt)
 have empty:ρ r=some none→es=[]→RT w F' u (.list sz ((es.drop off).take len)):=fun h1 h2=>by
  subst h2
  cases hu with
  | sl r off len cap L a c hρ'=>rw[h1]at hρ';cases hρ'
  | slP r cap a hρ hc=>simpa using vi F' a sz
 rcases hb with hb|hb
 · rcases hS.blk r _ hb with⟨L,h1,h2,h3,h4,h5⟩|⟨h1,h2⟩
   · exact main L h1 h2 h3
   · exact empty h1 h2
 · rcases hS.blk r _ hb with⟨L,h1,h2,h3,h4⟩|⟨h1,h2⟩
   · exact main L h1 h2 h3
   · exact empty h1 h2
theorem X8 {L:Loc} {i j:Nat} {α:Type} {es:List (List α)} {R:Value→α→Prop} (hr:xw w L es R) {cs:List α} (hi:es[i]? = some cs) {xs:List T} (hl:xs.length≤(cs.drop j).length) {F':Nat→Prop} (hF:F' L.b)
 (hx:∀ (k:Nat) x u v,xs[k]? = some x→(cs.drop j)[k]? = some v→cellAt w L i (j+k) u→R u v→RT w F' u x):RT w F' (.pointer (some ⟨L.b,L.o+(i*L.sz+j),none⟩)) (.fp xs):=by
 obtain⟨h1,h2,cc,el,fr,hh,hs,hf,hzz,hc⟩:=hr;have key:∀ k,k<xs.length→∃ v u,(cs.drop j)[k]? = some v∧cc[L.o+(i*L.sz+(j+k))]? = some u∧R u v:=fun k hk=>by
  have hk':k<(cs.drop j).length:=Nat.lt_of_lt_of_le hk hl;have hv:=List.getElem?_eq_getElem hk';have hv':=hv;rw[List.getElem?_drop]at hv';obtain⟨u,hu,hru⟩:=hc i (j+k) cs _ hi hv';exact⟨_,u,hv,hu,hru⟩
 refine .fp L.b _ xs (fun k=>(cc[L.o+(i*L.sz+(j+k))]?).getD undef) hF (fun k hk=>?_) fun k x hk=>?_
 · obtain⟨v,u,e1,e2,e3⟩:=key k hk;rw[e2];unfold World.cell?;rw[hh];simp only[Option.isSome_none,Option.getD_some];rw[show L.o+(i*L.sz+j)+k=L.o+(i*L.sz+(j+k)) by omega];simpa using e2
 · have hkl:k<xs.length:=(List.getElem?_eq_some_iff.1 hk).1;obtain⟨v,u,e1,e2,e3⟩:=key k hkl;rw[e2];exact hx k x u v hk e1 ⟨cc,el,fr,hh,e2⟩ e3
theorem bL:∀ {vs:List V} {xs:List T},ti vs=some xs→xs.length=vs.length∧∀ (j:Nat) x,xs[j]? = some x→vs[j]? = some (.t x)
 | [],xs,hx=>by simp only[ti]at hx;cases hx;exact⟨rfl,fun j x h=>by simp at h⟩
 | v::vs,xs,hx=>by
  simp only[ti]at hx
  split at hx
  · split at hx
    · rename_i xs' h2
      cases hx;obtain⟨k1,k2⟩:=bL h2;refine⟨by simp[k1],fun j x hj=>?_⟩
      cases j with
      | zero=>simp at hj;subst hj;rfl
      | succ j=>simpa using k2 j x (by simpa using hj)
    · cases hx
  · cases hx
theorem Wz (hS : St w F ρ Ow h) {F' : Nat → Prop} (hF : ∀ b, b < w.heap.size → F' b) {v : V} {u : Value} {x : T} (hu : RV w F ρ u v) (hx : sN h v = some x) : RT w F' u x := by
 cases v with
 | t y =>
  simp only[sN]at hx;cases hx
  cases hu with
  | t _ _ hy=>exact hy.mono (fun _ _=>rfl) fun b hb=>hF b (hS.fsz b hb)
 | ptr r i j =>
  have lt:∀ {α:Type} {L:Loc} {es:List (List α)} {R:Value→α→Prop},xw w L es R→F' L.b:=fun hr=>by
   obtain⟨_,_,c,el,fr,hh,_⟩:=hr;exact hF _ (Array.getElem?_eq_some_iff.1 hh).1
  cases hu with
  | ptr r i j L hρ =>
  have flat:∀ es:List (List T),xw w L es (RT w F)→∀ cs,es[i]? = some cs→RT w F' (.pointer (some ⟨L.b,L.o+(i*L.sz+j),none⟩)) (.fp (cs.drop j)):=fun es h3 cs hi =>
   X8 h3 hi (Nat.le_refl _) (lt h3) fun k x u v h1 h2 _ hr=>by
    rw[h1]at h2;cases h2;exact hr.mono (fun _ _=>rfl) fun b hb=>hF b (hS.fsz b hb)
  simp only[sN]at hx
  split at hx
  · rename_i sz es hb
    split at hx
    · rename_i cs hi
      cases hx;rcases hS.blk r _ hb with⟨L',h1,h2,h3,h4,h5⟩|⟨h1,h2⟩
      · rw[hρ]at h1;cases h1;exact flat es h3 cs hi
      · rw[hρ]at h1;cases h1
    · cases hx
  · rename_i sz es hb
    split at hx
    · rename_i cs hi
      cases hx;rcases hS.blk r _ hb with⟨L',h1,h2,h3,h4⟩|⟨h1,h2⟩
      · rw[hρ]at h1;cases h1;exact flat es h3 cs hi
      · rw[hρ]at h1;cases h1
    · cases hx
  · rename_i sz es hb
    split at hx
    · rename_i cs hi
      split at hx
      · rename_i xs hxs
        cases hx;obtain⟨k1,k2⟩:=bL hxs;rcases hS.blk r _ hb with⟨L',h1,h2,h3,h4,h5⟩|⟨h1,h2⟩
        · rw[hρ]at h1;cases h1;refine X8 h3 hi (by rw[k1];exact Nat.le_refl _) (lt h3) fun k x u v h1 h2 hcell hr=>?_
          have e1:=k2 k x h1;rw[e1]at h2;cases h2
          cases hr with
          | t _ _ hy=>exact hy.mono (fun _ _=>rfl) fun b hb=>hF b (hS.fsz b hb)
        · rw[hρ]at h1;cases h1
      · cases hx
    · cases hx
  · cases hx
 | _=>simp[sN]at hx
theorem ik (hS:St w F ρ Ow h){F':Nat→Prop}(hF:∀ b,b<w.heap.size→F' b):∀ {vs:List V} {us:List Value} {xs:List T},RVs w F ρ us vs→ud h vs=some xs→RTs w F' us xs
 | [],us,xs,hu,hx=>by simp only[ud]at hx;cases hx;cases hu;exact .nil
 | v::vs,us,xs,hu,hx=>by
  simp only[ud]at hx
  split at hx
  · rename_i y h1
    split at hx
    · rename_i xs' h2
      cases hx
      cases hu with
      | cons hy hys=>exact .cons (Wz hS hF hy h1) (ik hS hF hys h2)
    · cases hx
  · cases hx
theorem dE (hS:St w F ρ Ow h){F':Nat→Prop}(hF:∀ b,b<w.heap.size→F' b){v:V}{u:Value}{x:T}(hu:RV w F ρ u v)(hx:vc h v=some x):RT w F' u x:=by
 cases v with
 | t y =>
  simp only[vc]at hx;cases hx
  cases hu with
  | t _ _ hy=>exact hy.mono (fun _ _=>rfl) fun b hb=>hF b (hS.fsz b hb)
 | nil sz =>
  simp only[vc]at hx;cases hx
  cases hu;exact vi F' none sz
 | sl r off len cap =>
  simp only[vc]at hx
  split at hx
  · rename_i sz es hb;cases hx;exact ej hS (.inl hb) hu hF
  · rename_i sz es hb;cases hx;exact ej hS (.inr hb) hu hF
  · cases hx
 | fn f caps =>
  simp only[vc]at hx
  split at hx
  · rename_i xs hxs
    cases hx
    cases hu with
    | fn f vs cs g hs hg hr=>exact RT.fn' (ik hS hF (xp hs hg hr) hxs)
  · cases hx
 | _=>simp[vc]at hx
theorem uF:∀ {vs:List V} {xs:List T},xX h vs=some xs→xs.length=vs.length
 | [],xs,hx=>by simp only[xX]at hx;cases hx;rfl
 | v::vs,xs,hx=>by
  simp only[xX]at hx
  split at hx
  · split at hx
    · rename_i xs' h2;cases hx;simp[uF h2]
    · cases hx
  · cases hx
theorem qW:∀ {vs:List V} {xs:List T},xX h vs=some xs→∀ (j:Nat) x,xs[j]? = some x→∃ v,vs[j]? = some v∧zg h v=some x
 | [],xs,hx,j,x,hj=>by simp only[xX]at hx;cases hx;simp at hj
 | v::vs,xs,hx,j,x,hj=>by
  simp only[xX]at hx
  split at hx
  · rename_i y h1
    split at hx
    · rename_i xs' h2
      cases hx
      cases j with
      | zero=>simp at hj;subst hj;exact⟨v,rfl,h1⟩
      | succ j=>simpa using qW h2 j x (by simpa using hj)
    · cases hx
  · cases hx
theorem im:∀ {es:List (List V)} {xs:List (List T)},uS h es=some xs→xs.length=es.length∧∀ (i:Nat) ys,xs[i]? = some ys→∃ cs,es[i]? = some cs∧xX h cs=some ys
 | [],xs,hx=>by simp only[uS]at hx;cases hx;exact⟨rfl,fun i ys hi=>by simp at hi⟩
 | c::cs,xs,hx=>by
  simp only[uS]at hx
  split at hx
  · rename_i y h1
    split at hx
    · rename_i xs' h2
      cases hx;obtain⟨k1,k2⟩:=im h2;refine⟨by simp[k1],fun i ys hi=>?_⟩
      cases i with
      | zero=>simp at hi;subst hi;exact⟨c,rfl,h1⟩
      | succ i=>simpa using k2 i ys (by simpa using hi)
    · cases hx
  · cases hx
theorem RO.rt {u:Value}{x:T}{S:Nat→Prop}(hu:RO w u x S){F':Nat→Prop}(hF:∀ b,b<w.heap.size→F' b):RT w F' u x:=by
 induction hu with
 | flat u x S hx hf h=>exact h.mono (fun _ _=>rfl) fun _ hb=>hb.elim
 | empty a sz S=>exact vi F' a sz
 | list L c es S cc el fr g fp hn hlen hc hz hh hs hf hb hg hr hS hfp sep ih =>
  refine .list _ _ c _ es g hn hc (fun _=>⟨L.b,L.o,rfl,hF _ (Array.getElem?_eq_some_iff.1 hh).1,fun i j hi hj=>?_⟩) hlen fun i j cs x h1 h2=>ih i j cs x h1 h2
  have hi':i<es.length:=by omega
  have h1:=List.getElem?_eq_getElem hi';have h2:=List.getElem?_eq_getElem (show j<(es[i]'hi').length by rw[hlen _ (List.getElem_mem hi')];exact hj);have:=hg i j _ _ h1 h2;unfold World.cell?;rw[hh];simpa using this
theorem Wt (hS:St w F ρ Ow h) {F':Nat→Prop} (hF:∀ b,b<w.heap.size→F' b) {r sz i j:Nat} {es:List (List V)} {cs:List V} {v:V} {x:T} {u:Value} {L:Loc} (hb:h[r]? = some (.vs sz es)) (hL:ρ r=some (some L)) (hi:es[i]? = some cs) (hj:cs[j]? = some v)
 (hu:cellAt w L i j u) (hr:RV w F ρ u v) (hx:zg h v=some x):RT w F' u x:=by
 by_cases hv:∃ y,v=.o y
 · obtain⟨y,rfl⟩:=hv;simp only[zg]at hx
   cases hx;obtain⟨φ,hφ⟩:=hS.own;obtain⟨L1,u1,q1,⟨cc1,el1,fr1,q2,q3⟩,q4⟩:=hφ.cell r i j x ⟨_,es,cs,hb,hi,hj⟩;obtain⟨cc,el,fr,p1,p2⟩:=hu;rw[hL]at q1;cases q1;rw[p1]at q2;cases q2;rw[p2]at q3;cases q3;exact q4.rt hF
 · have hx':vc h v=some x:=by
    rw[← hx]
    cases v<;>first|rfl|exact absurd ⟨_,rfl⟩ hv
   exact dE hS hF hr hx'
theorem Wx (hS : St w F ρ Ow h) {F' : Nat → Prop} (hF : ∀ b, b < w.heap.size → F' b) {r off len : Nat} {cap : Option Nat} {u : Value} (hu : RV w F ρ u (.sl r off len cap)) {sz : Nat} {es : List (List V)} (hb : h[r]? = some (.vs sz es)) {xs : List (List T)}
 (hxs:uS h ((es.drop off).take len)=some xs):RT w F' u (.list sz xs):=by
 obtain⟨e1,e2⟩:=im hxs;obtain⟨φ,hφ⟩:=hS.own;rcases hS.blk r _ hb with⟨L,h1,h2,h3,h4,h5⟩|⟨h1,h2⟩
 · cases hu with
   | slP r cap a hρ' hc=>rw[h1]at hρ';cases hρ'
   | sl r off len cap L' a c hρ' ha hl hn hc0 hc1 hz =>
    rw[h1]at hρ';cases hρ';obtain⟨k1,k2,cc,el,fr,hh,hs,hf,hzz,hc⟩:=h3;subst h2;have hlen:((es.drop off).take len).length=len:=by simp;omega
    have cell:∀ i j,i<len→j<L.sz→∃ u x,(xs[i]?).bind (·[j]?)=some x∧cc[L.o+((off+i)*L.sz+j)]? = some u∧RT w F' u x:=fun i j hi hj=>by
     have hi':i<xs.length:=by omega
     obtain⟨cs,c1,c2⟩:=e2 i _ (List.getElem?_eq_getElem hi');have c1':=c1;rw[List.getElem?_take,if_pos hi,List.getElem?_drop]at c1';have hcl:=k2 cs (List.mem_of_getElem? c1');have hxl:=uF c2;have hjl:j<(xs[i]'hi').length:=by omega
     obtain⟨v,d1,d2⟩:=qW c2 j _ (List.getElem?_eq_getElem hjl);obtain⟨u,hu,hru⟩:=hc (off+i) j cs v c1' d1;refine⟨u,_,by rw[List.getElem?_eq_getElem hi'];exact List.getElem?_eq_getElem hjl,hu,?_⟩
     by_cases hv:∃ y,v=.o y
     · obtain⟨y,rfl⟩:=hv;simp only[zg]at d2;injection d2 with d2;obtain⟨L1,u1,q1,⟨cc1,el1,fr1,q2,q3⟩,q4⟩:=hφ.cell r (off+i) j y ⟨_,es,cs,hb,c1',d1⟩;rw[h1]at q1;cases q1;rw[hh]at q2;cases q2;rw[hu]at q3;cases q3;rw[← d2];exact q4.rt hF
     · have d2':vc h v=some ((xs[i]'hi')[j]'hjl):=by
        rw[← d2]
        cases v<;>first|rfl|exact absurd ⟨_,rfl⟩ hv
       exact dE hS hF hru d2'
    refine .list a len c L.sz _ (fun i j=>(cc[L.o+((off+i)*L.sz+j)]?).getD undef) (by omega) hl (fun hp=>?_) (fun e he=>?_) fun i j cs x hi hj=>?_
    · have hne:¬ c=0:=by omega
      refine⟨L.b,L.o+off*L.sz,ha.resolve_right hne,hF _ (Array.getElem?_eq_some_iff.1 hh).1,fun i j hi hj=>?_⟩;obtain⟨u,x,d2,d3,d4⟩:=cell i j hi hj;rw[d3];unfold World.cell?;rw[hh];simp only[Option.isSome_none,Option.getD_some];rw[show L.o+off*L.sz+(i*L.sz+j)=L.o+((off+i)*L.sz+j) by rw[Nat.add_mul];omega];simpa using d3
    · obtain⟨i,hi⟩:=List.mem_iff_getElem?.1 he;obtain⟨cs,c1,c2⟩:=e2 i e hi;rw[uF c2];exact k2 cs (List.mem_of_mem_drop (List.mem_of_mem_take (List.mem_of_getElem? c1)))
    · obtain⟨cs',c1,c2⟩:=e2 i cs hi;have hil:i<len:=by have:=(List.getElem?_eq_some_iff.1 hi).1;omega
      have hjl:j<L.sz:=by
       have h1:=(List.getElem?_eq_some_iff.1 hj).1;rw[uF c2,k2 cs' (List.mem_of_mem_drop (List.mem_of_mem_take (List.mem_of_getElem? c1)))]at h1;exact h1
      obtain⟨u,x',d2,d3,d4⟩:=cell i j hil hjl;rw[hi]at d2;simp only[Option.bind_some]at d2;rw[hj]at d2;cases d2;rw[d3];exact d4
 · subst h2;have hx0:xs=[]:=List.eq_nil_of_length_eq_zero (by simpa using e1);subst hx0
   cases hu with
   | sl r off len cap L a c hρ'=>rw[h1]at hρ';cases hρ'
   | slP r cap a hρ hc=>exact vi F' a sz
theorem Wy (hS:St w F ρ Ow h){F':Nat→Prop}(hF:∀ b,b<w.heap.size→F' b){ρ':y9}{r i j:Nat}{u:Value}(hu:RV w F ρ u (.ptr r i j)){v':V}(hx:sM h h[r]? i j=some v'):RV w F' ρ' u v':=by
 have lt:∀ {α:Type} {L:Loc} {es:List (List α)} {R:Value→α→Prop},xw w L es R→F' L.b:=fun hr=>by
  obtain⟨_,_,c,el,fr,hh,_⟩:=hr;exact hF _ (Array.getElem?_eq_some_iff.1 hh).1
 cases hu with
 | ptr r i j L hρ =>
 have flat:∀ es:List (List T),xw w L es (RT w F)→∀ cs,es[i]? = some cs→RV w F' ρ' (.pointer (some ⟨L.b,L.o+(i*L.sz+j),none⟩)) (.t (.fp (cs.drop j))):=fun es h3 cs hi =>
  .t _ _ (X8 h3 hi (Nat.le_refl _) (lt h3) fun k x u v h1 h2 _ hr=>by
   rw[h1]at h2;cases h2;exact hr.mono (fun _ _=>rfl) fun b hb=>hF b (hS.fsz b hb))
 unfold sM at hx
 split at hx
 · rename_i sz es hb
   split at hx
   · rename_i cs hi
     cases hx;rcases hS.blk r _ hb with⟨L',h1,h2,h3,h4,h5⟩|⟨h1,h2⟩
     · rw[hρ]at h1;cases h1;exact flat es h3 cs hi
     · rw[hρ]at h1;cases h1
   · cases hx
 · rename_i sz es hb
   split at hx
   · rename_i cs hi
     cases hx;rcases hS.blk r _ hb with⟨L',h1,h2,h3,h4⟩|⟨h1,h2⟩
     · rw[hρ]at h1;cases h1;exact flat es h3 cs hi
     · rw[hρ]at h1;cases h1
   · cases hx
 · rename_i sz es hb
   split at hx
   · rename_i cs hi
     split at hx
     · rename_i xs hxs
       cases hx;rcases hS.blk r _ hb with⟨L',h1,h2,h3,h4,h5⟩|⟨h1,h2⟩
       · rw[hρ]at h1;cases h1;refine .t _ _ (X8 h3 hi (by rw[uF hxs];exact Nat.le_refl _) (lt h3) fun k x u v h1 h2 hcell hr=>?_);obtain⟨v',e1,e2⟩:=qW hxs k x h1;rw[e1]at h2;cases h2;rw[List.getElem?_drop]at e1;exact Wt hS hF hb hρ hi e1 hcell hr e2
       · rw[hρ]at h1;cases h1
     · cases hx
   · cases hx
 · cases hx
theorem Ww (hS:St w F ρ Ow h){F':Nat→Prop}(hF:∀ b,b<w.heap.size→F' b){ρ':y9}{r off len:Nat}{cap:Option Nat}{u:Value}(hu:RV w F ρ u (.sl r off len cap)){v':V}(hx:sL h h[r]? off len=some v'):RV w F' ρ' u v':=by
 unfold sL at hx
 split at hx
 · rename_i sz es hb;cases hx;exact .t _ _ (ej hS (.inl hb) hu hF)
 · rename_i sz es hb;cases hx;exact .t _ _ (ej hS (.inr hb) hu hF)
 · rename_i sz es hb
   split at hx
   · rename_i xs hxs;cases hx;exact .t _ _ (Wx hS hF hu hb hxs)
   · cases hx
 · cases hx
mutual
theorem Wv (hS:St w F ρ Ow h){F':Nat→Prop}(hF:∀ b,b<w.heap.size→F' b){ρ':y9}:∀ (v:V) {u:Value} {v':V},RV w F ρ u v→yI h v=some v'→RV w F' ρ' u v'
 | .t x,u,v',hu,hx=>by
  simp only[yI]at hx;cases hx
  cases hu with
  | t _ _ hy=>exact .t _ _ (hy.mono (fun _ _=>rfl) fun b hb=>hF b (hS.fsz b hb))
 | .nil sz,u,v',hu,hx=>by simp only[yI]at hx;cases hx;cases hu;exact .t _ _ (vi F' none sz)
 | .sl r off len cap,u,v',hu,hx=>by simp only[yI]at hx;exact Ww hS hF hu hx
 | .ptr r i j,u,v',hu,hx=>by simp only[yI]at hx;exact Wy hS hF hu hx
 | .agg cs,u,v',hu,hx=>by
  simp only[yI]at hx
  split at hx
  · rename_i cs' he;cases hx
    cases hu with
    | agg vs cs g hs hg hr=>exact RV.eI (uy hS hF cs (xp hs hg hr) he)
  · cases hx
 | .tup cs,u,v',hu,hx=>by
  simp only[yI]at hx
  split at hx
  · rename_i cs' he;cases hx
    cases hu with
    | tup vs cs g hs hg hr=>exact RV.gN (uy hS hF cs (xp hs hg hr) he)
  · cases hx
 | .fn f cs, u, v', hu, hx => by
  simp only[yI]at hx
  split at hx
  · rename_i cs' he
    split at hx
    · rename_i xs hxs
      cases hx
      cases hu with
      | fn f vs cs g hs hg hr =>
       have:=uy hS hF (ρ':=ρ') cs (xp hs hg hr) he;exact .t _ _ (RT.fn' (oF this hxs))
    · cases hx
  · cases hx
 | .und,u,v',hu,hx=>by simp[yI]at hx
 | .bad,u,v',hu,hx=>by simp[yI]at hx
theorem uy (hS:St w F ρ Ow h){F':Nat→Prop}(hF:∀ b,b<w.heap.size→F' b){ρ':y9}:∀ (vs:List V) {us:List Value} {vs':List V},RVs w F ρ us vs→yI.snapVs h vs=some vs'→RVs w F' ρ' us vs'
 | [],us,vs',hu,hx=>by simp only[yI.snapVs]at hx;cases hx;cases hu;exact .nil
 | v::vs,us,vs',hu,hx=>by
  simp only[yI.snapVs]at hx
  split at hx
  · rename_i x he
    split at hx
    · rename_i xs he2;cases hx
      cases hu with
      | cons hv hvs=>exact .cons (Wv hS hF v hv he) (uy hS hF vs hvs he2)
    · cases hx
  · cases hx
end
theorem s5 {F':Nat→Prop}{u:Value}{x:T}(hu:RT w F u x)(hx:zf x=true):RT w F' u x:=by
 cases hu with
 | int k n=>exact .int k n
 | bool b=>exact .bool b
 | str s l h=>exact .str s l h
 | nilp=>exact .nilp
 | nilf=>exact .nilf
 | nili=>exact .nili
 | nni t v=>exact .nni t v
 | list a n c sz es g hn hc h0 hz hr =>
  simp only[zf,List.isEmpty_iff]at hx;subst hx;simp only[List.length_nil]at hn;subst hn;exact .list a 0 c sz [] g rfl hc (fun h=>absurd h (by omega)) (fun e he=>by cases he) (fun i j cs x hi=>by simp at hi)
 | nlist|fp|fn=>simp[zf]at hx
mutual
theorem bc {F':Nat→Prop}{ρ':y9}:∀ (v:V) {u:Value},RV w F ρ u v→zc v=true→RV w F' ρ' u v
 | .t x,u,hu,hx=>by cases hu with|t _ _ hy=>exact .t _ _ (s5 hy hx)
 | .agg cs,u,hu,hx=>by
  simp only[zc]at hx
  cases hu with
  | agg vs cs g hs hg hr=>exact RV.eI (nF cs (xp hs hg hr) hx)
 | .tup cs,u,hu,hx=>by
  simp only[zc]at hx
  cases hu with
  | tup vs cs g hs hg hr=>exact RV.gN (nF cs (xp hs hg hr) hx)
 | .nil _,u,hu,hx=>by simp[zc]at hx
 | .sl _ _ _ _,u,hu,hx=>by simp[zc]at hx
 | .ptr _ _ _,u,hu,hx=>by simp[zc]at hx
 | .fn _ _,u,hu,hx=>by simp[zc]at hx
 | .und,u,hu,hx=>by simp[zc]at hx
 | .bad,u,hu,hx=>by simp[zc]at hx
theorem nF {F':Nat→Prop}{ρ':y9}:∀ (vs:List V) {us:List Value},RVs w F ρ us vs→zc.flatVs vs=true→RVs w F' ρ' us vs
 | [],us,hu,hx=>by cases hu;exact .nil
 | v::vs,us,hu,hx=>by
  simp only[zc.flatVs,Bool.and_eq_true]at hx
  cases hu with
  | cons h1 h2=>exact .cons (bc v h1 hx.1) (nF vs h2 hx.2)
end
end Go.Proofs.YtefkoljdebekdaaGreatDoor.E
/- The evaluator's operations are those of the machine, calls among them. Conditions: those of each lemma. -/
namespace Go.Proofs.YtefkoljdebekdaaGreatDoor.E
variable {P:Program} {w:World} {F:Nat→Prop} {ρ:y9} {Ow:Own} {h:Heap}
structure vy (W0 w:World) (F:Nat→Prop):Prop where
 size:W0.heap.size≤w.heap.size
 F:∀ b,b<W0.heap.size→F b
 heap:∀ b,b<W0.heap.size→w.heap[b]? = W0.heap[b]?
theorem vy.next {W0 w':World}{F':Nat→Prop}{ρ':y9}(hB:vy W0 w F)(hN:Nxt Ow w F ρ w' F' ρ'):vy W0 w' F' :=
 ⟨Nat.le_trans hB.size hN.size,fun b hb=>hN.grow b (hB.F b hb),fun b hb=>(hN.agree b (hB.F b hb)).trans (hB.heap b hb)⟩
variable {W0:World}
structure wi (P:Program) (W0:World) (rec:Rec):Prop where
 clo:∀ g args v,rec (.call g args [])=some (.call v []) →
  (∃ fn, P.funcs[g]? = some fn ∧ (fn.name == "runtime.NumGoroutine") = false ∧ fn.body.isNone = false) ∧
  ∀ (w:World) (F:Nat→Prop) (us:Array Value),vy W0 w F→(∀ b,F b→b<w.heap.size)→RVs w F zO us.toList args →
   Calls P g us w fun e w'=>∃ u F',e=.returned u∧RV w' F' zO u v∧(∀ b,F' b→b<w'.heap.size)∧Nxt (own fun b=>w.heap.size≤b) w F zO w' F' zO
 opn:∀ gv g args h v h',rec (.callO gv g args h)=some (.call v h') →
  (∃ fn, P.funcs[g]? = some fn ∧ (fn.name == "runtime.NumGoroutine") = false ∧ fn.body.isNone = false) ∧
  ∀ (Ow:Own) (w:World) (F:Nat→Prop) (ρ:y9) (us:Array Value),vy W0 w F→St w F ρ Ow h→OkC Ow w→RVs w F ρ us.toList args →
   Calls P g us w fun e w'=>∃ u F' ρ',e=.returned u∧RV w' F' ρ' u v∧St w' F' ρ' Ow h'∧Nxt Ow w F zO w' F' zO∧∀ r l,r<h.length→ρ r=some l→ρ' r=some l
def Wi (Ow:Own)(w:World)(F:Nat→Prop)(ρ:y9)(v:V)(h':Heap)(K:Value→World→Prop):Prop :=
 ∀ w' F' ρ' u,RV w' F' ρ' u v→St w' F' ρ' Ow h'→Nxt Ow w F ρ w' F' ρ'→K u w'
theorem xO {o:Oper} {a:Act} {K:Act→World→Prop} {Q:Exit→Act→World→Prop} {s:Sem Value} {v:V} {h':Heap} (he:execOp a.eval o=do pure (.value (← s))) (hr:xx P w F ρ Ow s v h')
 (hK:Wi Ow w F ρ v h' fun u w'=>K (a.put o.dst u) w'):o.wp P a w K Q:=by
 obtain⟨w',F',ρ',u,h1,h2,h3,h4⟩:=hr;unfold Oper.wp;rw[he,Sem.run_bind,h1];exact hK w' F' ρ' u h2 h3 h4
theorem wa {o:Oper} {a:Act} {K:Act→World→Prop} {Q:Exit→Act→World→Prop} (hS:St w F ρ Ow h) {s:Sem Value} {v:V} (he:execOp a.eval o=do pure (.value (← s))) (hr:∃ u,s.run P w=.ok u w∧RV w F ρ u v)
 (hK:Wi Ow w F ρ v h fun u w'=>K (a.put o.dst u) w'):o.wp P a w K Q:=by
 obtain⟨u,h1,h2⟩:=hr;exact xO he (xx.same hS h1 h2) hK
theorem vV {o:Oper} {a:Act} {K:Act→World→Prop} {Q:Exit→Act→World→Prop} (hS:St w F ρ Ow h) {u:Value} {v:V} (he:(execOp a.eval o).run P w=.ok (.value u) w) (hu:RV w F ρ u v)
 (hK:Wi Ow w F ρ v h fun u w'=>K (a.put o.dst u) w'):o.wp P a w K Q:=by
 unfold Oper.wp;rw[he];exact hK w F ρ u hu hS (Nxt.refl _ _ _ _)
theorem sB {a:Act}{e:Env}(he:RE w F ρ a e):∀ (xs:List Operand) (ts:List TypeId),RVs w F ρ (xs.map a.eval) (yl P e xs ts)
 | [],_=>by simp only[List.map_nil,yl];exact .nil
 | x::xs,[]=>by simp only[List.map_cons,yl];exact .cons (yO he _ _) (sB he xs [])
 | x::xs,t::ts=>by simp only[List.map_cons,yl];exact .cons (yO he _ _) (sB he xs ts)
theorem fJ {a:Act}{e:Env}(he:RE w F ρ a e)(x:Option Operand):ZH w F ρ (x.map a.eval) (qL P e x):=by
 cases x with
 | none=>exact trivial
 | some x=>exact yO he 0 x
theorem S2 {t:TypeId}{x:V}{n:Nat}(hn:jS P t x=some n){u:Value}(hu:RV w F ρ u x)(rt:TypeId):(Builtin.len_ #[t] rt #[u]).run P w=.ok (goInt n) w:=by
 unfold jS at hn
 split at hn
 · rename_i ht;have hty:=oo ht
   split at hn
   · cases hn
     cases hu with
     | t _ _ hx =>
     cases hx with
     | str s _ hs=>subst hs;simp[Builtin.len_,zF hty]
   · cases hn
 · split at hn
   · rename_i ht;have hty:∃ e,P.underlying t=some (.slice e):=by
      unfold xH at ht;split at ht
      · exact⟨_,by assumption⟩
      · cases ht
     obtain⟨e,hty⟩:=hty
     split at hn
     · cases hn
       cases hu with
       | t _ _ hx =>
       cases hx with
       | list a m c sz es g hm=>subst hm;simp[Builtin.len_,zF hty]
     · cases hn;cases hu;simp[Builtin.len_,zF hty]
     · cases hn
       cases hu with
       | sl=>simp[Builtin.len_,zF hty]
       | slP=>simp[Builtin.len_,zF hty]
     · cases hn
   · cases hn
theorem UD {x:V}{g:Nat}{caps:List V}(hf:fnV x=some (g,caps)){u:Value}(hu:RV w F ρ u x):∃ vs:Array Value,u=.func (.func g) #[] vs∧RVs w F ρ vs.toList caps:=by
 unfold fnV at hf
 split at hf
 · cases hf
   cases hu with
   | t _ _ hx =>
   cases hx with
   | fn f caps vs hv g hg hr=>exact⟨vs,rfl,fC (Q6 hv hg hr)⟩
 · cases hf
   cases hu with
   | fn f vs cs g hs hg hr=>exact⟨vs,rfl,xp hs hg hr⟩
 · cases hf
theorem kJ (hS:St w F ρ Ow h)(hO:∀ b,w.heap.size≤b→Ow b){w':World}{F':Nat→Prop}(hF:∀ b,F' b→b<w'.heap.size)(hN:Nxt (own fun b=>w.heap.size≤b) w F zO w' F' zO):St w' F' ρ Ow h∧Nxt Ow w F ρ w' F' ρ:=by
 have hN':Nxt Ow w F ρ w' F' ρ:=⟨hN.os,hN.tape,hN.output,hN.size,fun b hb _=>hN.keep b hb (Nat.not_le.2 hb),hN.agree,hN.grow,fun b hb=>(hN.new b hb).imp id (hO b),Ext.refl _,fun _ _=>rfl⟩;refine⟨hS.next hN' hS.out hF (fun r b hr=>.inl ⟨hr,fun L hL hw=>?_⟩)
  (hS.owned hN' (fun b _ hF0 hlt _=>⟨hN.keep b hlt (Nat.not_le.2 hlt),fun x=>(hN.new b x).elim hF0 (Nat.not_le.2 hlt)⟩) (fun r i j x ho=>⟨ho,fun L u hL hu=>?_⟩) fun r b L hr hw hL=>.inr (hS.same (Ext.refl _) hr hw hL)),hN'⟩
 rotate_left
 · obtain⟨sz,es,cs,q1,_⟩:=ho;obtain⟨h1,h2,h3⟩:=(hS.blk r _ q1).vX rfl hL;exact v7 (hN.keep L.b h3 (Nat.not_le.2 h3)) hu
 obtain⟨h1,h2,h3⟩:=(hS.blk r b hr).vX hw hL;exact⟨hN.keep L.b h3 (Nat.not_le.2 h3),fun x=>(hN.new L.b x).elim h1 (Nat.not_le.2 h3)⟩
theorem mR (hS:St w F ρ Ow h)(hO:∀ b,w.heap.size≤b→Ow b){rec:Rec}(hB:vy W0 w F)(hrec:wi P W0 rec){g:Nat}{args:List V}{v:V}(hc:zr rec g args=some v){us:Array Value}(hu:RVs w F zO us.toList args) :
 (∃ fn, P.funcs[g]? = some fn ∧ (fn.name == "runtime.NumGoroutine") = false ∧ fn.body.isNone = false) ∧
 Calls P g us w fun e w'=>∃ u F',e=.returned u∧RV w' F' ρ u v∧St w' F' ρ Ow h∧Nxt Ow w F ρ w' F' ρ:=by
 unfold zr at hc
 split at hc
 · rename_i v' hr
   cases hc;obtain⟨hfn,hcall⟩:=hrec.clo g args v hr;refine⟨hfn,(hcall w F us hB hS.fsz hu).mono ?_⟩
   rintro e w' ⟨u,F',rfl,h1,h2,h3⟩
   obtain⟨k1,k2⟩:=kJ hS hO h2 h3;exact⟨u,F',rfl,h1.mono (fun _ _=>rfl) (fun _ x=>x) (kb ρ),k1,k2⟩
 · cases hc
theorem W8 (hS : St w F ρ Ow h) (hO : ∀ b, w.heap.size ≤ b → Ow b) {pol : Pol} {rec : Rec} (hB : vy W0 w F) (hrec : wi P W0 rec) {f : Nat} {N : Option Nat} {dst : Option Nat} (hz : ∀ r, Ow.z r → r < h.length) {g : Nat} {args : List V} {v : V} {h' : Heap} (hc : wL pol rec f N dst g args h = some (v, h')) {us : Array Value} (hu : RVs w F ρ us.toList args) :
 (∃ fn, P.funcs[g]? = some fn ∧ (fn.name == "runtime.NumGoroutine") = false ∧ fn.body.isNone = false) ∧
 Calls P g us w fun e w'=>∃ u F' ρ',e=.returned u∧RV w' F' ρ' u v∧St w' F' ρ' Ow h'∧Nxt Ow w F ρ w' F' ρ':=by
 unfold wL at hc
 split at hc
 · split at hc
   · rename_i az has
     split at hc
     · rename_i v' hv
       cases hc;obtain⟨e1,e2⟩:=mR hS hO hB hrec hv (q7 zO args hu has);refine⟨e1,e2.mono ?_⟩
       rintro e w' ⟨u,F',rfl,h1,h2,h3⟩
       exact⟨u,F',ρ,rfl,h1,h2,h3⟩
     · cases hc
   · split at hc
     · rename_i az has
       split at hc
       · rename_i v' hv
         split at hc
         · rename_i hfl
           cases hc;unfold zr at hv
           split at hv
           · rename_i v' hr
             cases hv;obtain⟨hfn,hcall⟩:=hrec.clo g az v hr;refine⟨hfn,(hcall w (fun b=>b<w.heap.size) us ⟨hB.size,fun b hb=>Nat.lt_of_lt_of_le hb hB.size,hB.heap⟩ (fun b hb=>hb) (uy hS (fun b hb=>hb) args hu has)).mono ?_⟩
             rintro e w' ⟨u,F',rfl,h1,h2,h3⟩
             have hN:Nxt (own fun b=>w.heap.size≤b) w F zO w' F zO :=
              ⟨h3.os,h3.tape,h3.output,h3.size,h3.keep,fun b hb=>h3.agree b (hS.fsz b hb),fun b hb=>hb,fun b hb=>.inl hb,Ext.refl _,fun _ _=>rfl⟩
             obtain⟨k1,k2⟩:=kJ hS hO (fun b hb=>Nat.lt_of_lt_of_le (hS.fsz b hb) h3.size) hN;exact⟨u,F,ρ,rfl,bc v h1 hfl,k1,k2⟩
           · cases hv
         · cases hc
       · cases hc
     · cases hc
 · split at hc
   · rename_i az h1 has
     split at hc
     · rename_i v' hv
       cases hc;obtain⟨F1,k1,k2,k3⟩:=rA zO args hS hu has;obtain⟨e1,e2⟩:=mR k2 hO (hB.next k3) hrec hv k1;refine⟨e1,e2.mono ?_⟩
       rintro e w' ⟨u,F',rfl,h1,h2,h3⟩
       exact⟨u,F',ρ,rfl,h1,h2,k3.trans h3⟩
     · cases hc
   · cases hc
 · rename_i gv hpm
   split at hc
   · rename_i v' h1 hr;obtain⟨e1,e2⟩:=hrec.opn gv g _ _ _ _ hr;have hnd:(xy h args).Nodup:=rm h 3 _ (vH _ _ (by simp));obtain⟨φ,hφ⟩:=hS.own;have hS0:=TL (o9 hnd hS) (dV hnd hφ);refine⟨e1,(e2 (vt Ow w (y8 ρ (xy h args)) (wz (xy h args) h) (pz (xy h args) φ)) w F (y8 ρ (xy h args)) us hB hS0 (OkC.own _ fun b hb=>⟨hO b hb,.inl hb⟩) (ZB _ args hu)).mono ?_⟩
     rintro e w' ⟨u,F',ρ',rfl,h1,h2,h3,h4⟩
     obtain⟨ρ2,k1,k2,k3⟩:=iE hnd hS hφ hz hc h1 h2 h3 (fun r l hr hl=>h4 r l (by simpa [yj,xy] using hr) hl);exact⟨u,F',ρ2,rfl,k1,k2,k3⟩
   · cases hc
 · cases hc
 · cases hc
theorem bp {g : Nat} {us : Array Value} {fn : Func} (h1 : P.funcs[g]? = some fn) (h2 : (fn.name == "runtime.NumGoroutine") = false) (h3 : fn.body.isNone = false) : (callFunc g us).run P w = .ok (.enter g us) w := by
 simp only[callFunc,Sem.run_bind,run_program,Result.andThen_ok,h1,h2,h3];rfl
theorem R7 {u:Value}{x:T}(hu:RV w F ρ u (.t x)):RT w F u x:=by cases hu with|t _ _ hx=>exact hx
theorem tw {u:Value}{k:IntKind}{n:Int}(hu:RV w F ρ u (.t (.int k n))):u=.int k n:=by cases R7 hu;rfl
theorem fB {u:Value}{b:Bool}(hu:RV w F ρ u (.t (.bool b))):u=.bool b:=by cases R7 hu;rfl
theorem sG {u:Value}{l:List UInt8}(hu:RV w F ρ u (.t (.str l))):∃ s:ByteArray,u=.string s∧s.data.toList=l:=by
 cases R7 hu with
 | str s _ hs=>exact⟨s,rfl,hs⟩
theorem Q5 {u:Value}{cs:List V}(hu:RV w F ρ u (.tup cs)):∃ vs:Array Value,u=.tuple vs∧RVs w F ρ vs.toList cs:=by
 cases hu with
 | tup us cs g hs hg hr=>exact⟨us,rfl,xp hs hg hr⟩
theorem T0 {pol : Pol} {rec : Rec} (hB : vy W0 w F) (hrec : wi P W0 rec) {f : Nat} {o : Oper} {e : Env} {v : V} {h' : Heap} (hev : zU P pol rec f Ow.N o e h = some (v, h')) (hS : St w F ρ Ow h) (hO : OkO Ow w ρ h) (hz : ∀ r, Ow.z r → r < h.length) {a : Act} (he : RE w F ρ a e)
 {K:Act→World→Prop} {Q:Exit→Act→World→Prop} (hK:Wi Ow w F ρ v h' fun u w'=>K (a.put o.dst u) w'):o.wp P a w K Q:=by
 obtain⟨dst,op,ty,pos,after,guard⟩:=o
 cases op with
 | move x =>
  simp only[zU]at hev;cases hev;exact vV hS (by simp[execOp]) (yO he ty x) hK
 | assign x =>
  simp only[zU]at hev;cases hev;exact vV hS (by simp[execOp]) (yO he ty x) hK
 | pick c x y =>
  simp only[zU]at hev
  split at hev
  · rename_i t hc
    cases hev;have hcv:=yO (P:=P) he 0 c;rw[hc]at hcv;have hg:=fB hcv
    cases t with
    | true=>exact vV hS (u:=a.eval x) (by simp[execOp,hg,asBool]) (yO he ty x) hK
    | false=>exact vV hS (u:=a.eval y) (by simp[execOp,hg,asBool]) (yO he ty y) hK
  · cases hev
 | alloc t =>
  simp only[zU]at hev
  split at hev
  · rename_i zs hz
    split at hev
    · cases hev
    · cases hev;exact xO rfl (VN hS hO hz) hK
  · cases hev
 | box t x =>
  simp only[zU]at hev
  split at hev
  · cases hev
  · rename_i hc
    cases hev;simp only[Bool.or_eq_true,Bool.not_eq_true',not_or,Bool.not_eq_false]at hc;exact xO rfl (QN hS hO (yO he t x) hc.2) hK
 | build t parts =>
  simp only[zU]at hev
  split at hev
  · rename_i hst
    split at hev
    · rename_i zs hz
      split at hev
      · rename_i cs hf
        cases hev;refine xO rfl (Vw hS hst hz (ps:=parts.map fun (i,x)=>(i,a.eval x)) ?_ hf) hK;have:=o8 (P:=P) he (fTy P t) parts.toList;simpa using this
      · cases hev
    · cases hev
  · cases hev
 | buildSlice t len parts =>
  simp only[zU]at hev
  split at hev
  · rename_i el hel
    split at hev
    · cases hev
    · rename_i hc;simp only[not_or,Bool.not_eq_true,Option.isNone_eq_false_iff]at hc;obtain⟨c1,c2,c3,c4⟩:=hc
      split at hev
      · rename_i css hf
        split at hev
        · rename_i es h1 hg
          cases hev;obtain⟨zs,hz⟩:=Option.isSome_iff_exists.1 c4;have hp:=o8 (P:=P) he (fun _=>el) parts.toList;have hl:(xD P e (fun _=>el) parts.toList).length=len:=by
           have:=zP hp;simp at this;simp only[ne_eq,Decidable.not_not]at c3;omega
          have:=jR (ps:=parts.map fun (i,x)=>(i,a.eval x)) hS hO hel (by simpa using hp) c1 (by rw[hl];exact c2) hf hg hz;rw[hl]at this;exact xO rfl this hK
        · cases hev
      · cases hev
  · cases hev
 | load t x =>
  simp only[zU]at hev
  split at hev
  · rename_i v' hv;cases hev;exact wa hS rfl (ZZ hS hv (yO he 0 x)) hK
  · cases hev
 | store t x y =>
  simp only[zU]at hev
  split at hev
  · rename_i h1 hs
    cases hev;obtain⟨w',F',e1,e2,e3⟩:=Wo hS hs (yO he 0 x) (yO he t y);unfold Oper.wp;simp only[execOp,Sem.run_bind,e1,Result.andThen_ok,Sem.run_pure];exact hK w' F' ρ undef .und e2 e3
  · cases hev
 | binOp b t x y u =>
  simp only[zU]at hev
  split at hev
  · rename_i v' hv;cases hev;exact xO rfl (SR hS x y hv (yO he t x) (yO he u y)) hK
  · cases hev
 | unOp b t x =>
  simp only[zU]at hev
  split at hev
  · rename_i v' hv;cases hev;exact xO rfl (RZ hS hv (yO he t x)) hK
  · cases hev
 | convert src dst' x =>
  simp only[zU]at hev
  split at hev
  · rename_i v' hv;cases hev;exact wa hS rfl (Sq hS hv (yO he src x)) hK
  · cases hev
 | makeFunc fn first caps =>
  cases fn with
  | func g =>
   simp only[zU]at hev
   split at hev
   · rename_i hf
     cases hev;have hfe:first = #[]:=Array.eq_empty_of_size_eq_zero hf
     subst hfe;refine vV hS (u:=.func (.func g) #[] (caps.map a.eval)) (by simp[execOp,Instr.makeFunc]) (RV.fn' ?_) hK;have:=sB (P:=P) he caps.toList [];simpa using this
   · cases hev
  | _=>simp[zU]at hev
 | makeSlice t l c =>
  simp only[zU]at hev
  split at hev
  · rename_i el k n k' m hel hl hc
    split at hev
    · rename_i zs hz
      split at hev
      · rename_i z hza
        split at hev
        · cases hev
        · rename_i hcond;simp only[not_or,ne_eq,Decidable.not_not,gt_iff_lt,Nat.not_lt]at hcond;obtain⟨c1,c2,c3,c4,c5⟩:=hcond
          cases hev;have hlv:=yO (P:=P) he 0 l;have hcv:=yO (P:=P) he 0 c;rw[hl]at hlv;rw[hc]at hcv;subst c3;have e1:=tw hlv;have e2:=tw hcv;obtain⟨n',rfl⟩:=Int.eq_ofNat_of_zero_le (show 0≤n by omega);simp only[Int.toNat_natCast]at *;refine xO (s:=Instr.makeSlice t (a.eval l) (a.eval c)) rfl ?_ hK;rw[e1,e2];exact TZ hS hO hel hz hza c1 c4 c5
      · cases hev
    · cases hev
  · cases hev
 | slice t x lo hi mx =>
  simp only[zU]at hev
  split at hev
  · rename_i v' hv;cases hev;exact wa hS rfl (Qq hS hv (yO he t x) (fJ he lo) (fJ he hi) (fJ he mx)) hK
  · cases hev
 | nilCheck x =>
  simp only[zU]at hev
  split at hev
  · rename_i v' hv
    cases hev;have hxv:=yO (P:=P) he 0 x;generalize hg:a.eval x=u at hxv;generalize opv P e 0 x=xv at hv hxv;unfold bZ at hv
    split at hv
    · rename_i r i j
      cases hv
      cases hxv with
      | ptr r i j L hρ =>
      exact wa hS (s:=pure (a.eval x)) (by simp[execOp,hg]) ⟨_,by rw[hg];rfl,.ptr r i j L hρ⟩ hK
    · rename_i cs
      cases hv
      cases hxv with
      | t _ _ hx =>
      cases hx with
      | fp b o' cs g hF hcell hr =>
      exact wa hS (s:=pure (a.eval x)) (by simp[execOp,hg]) ⟨_,by rw[hg];rfl,.t _ _ (.fp b o' cs g hF hcell hr)⟩ hK
    · cases hv
  · cases hev
 | fieldAddr s x i =>
  simp only[zU]at hev
  split at hev
  · rename_i v' hv;cases hev;exact wa hS rfl (az hv (yO he 0 x)) hK
  · cases hev
 | field s x i =>
  simp only[zU]at hev
  split at hev
  · rename_i v' hv;cases hev;exact wa hS rfl (Qn hv (yO he s x)) hK
  · cases hev
 | indexAddr t x i =>
  simp only[zU]at hev
  split at hev
  · rename_i v' hv;cases hev;exact wa hS rfl (ay hS hv (yO he t x) (yO he 0 i)) hK
  · cases hev
 | index t x i =>
  simp only[zU]at hev
  split at hev
  · rename_i l k n hx hi
    split at hev
    · rename_i hst;have hty:=oo hst
      split at hev
      · rename_i b hb
        cases hev;obtain⟨b0,b1,b2⟩:=iY hb;have hxv:=yO (P:=P) he t x;have hiv:=yO (P:=P) he 0 i;rw[hx]at hxv;rw[hi]at hiv;obtain⟨s,hgx,hs⟩:=sG hxv;have hgi:=tw hiv;subst hs;refine wa hS (s:=Instr.index t (a.eval x) (a.eval i)) rfl ⟨.int .u8 b.toNat,?_,.t _ _ (.int _ _)⟩ hK;rw[hgx,hgi,run_index_string w t s k n hty];have hlt:n.toNat<s.size:=by simp at b1;omega
        rw[dif_pos ⟨b0,by simpa using b1⟩]
        congr 3
        have:s.data.toList[n.toNat]? = some (s[n.toNat]'hlt):=by
         rw[List.getElem?_eq_getElem (by simpa using hlt)];rfl
        rw[this]at b2
        cases b2;rfl
      · cases hev
    · cases hev
  · cases hev
 | extract x i =>
  simp only[zU]at hev
  split at hev
  · rename_i vs hx
    split at hev
    · rename_i v' hi
      cases hev;have hxv:=yO (P:=P) he 0 x;rw[hx]at hxv;obtain⟨us,hgx,hus⟩:=Q5 hxv;obtain⟨u,e1,e2⟩:=yh hus i _ hi;refine wa hS (s:=Instr.extract (a.eval x) i) rfl ⟨u,?_,e2⟩ hK;have:us[i]? = some u:=by simpa using e1
      rw[hgx];simp[Instr.extract,this]
    · cases hev
  · cases hev
 | call c =>
  obtain⟨callee,args,tys⟩:=c
  cases callee with
  | builtin b =>
   simp only[zU]at hev;have hargs:=sB (P:=P) he args.toList tys.toList;unfold blt at hev
   split at hev
   · rename_i x hx;rw[hx]at hargs
     split at hev
     · rename_i t htys
       split at hev
       · rename_i n hn
         cases hev
         cases hau:args.toList with
         | nil=>rw[hau]at hargs;cases hargs
         | cons y ys =>
          rw[hau]at hargs;simp only[List.map_cons]at hargs
          cases hargs with
          | cons h1 h2 =>
          cases ys with
          | cons=>cases h2
          | nil =>
          have hA:args = #[y]:=by apply Array.ext';simpa using hau
          have hT:tys = #[t]:=by apply Array.ext';simpa using htys
          subst hA hT;refine vV hS (u:=goInt n) ?_ (.t _ _ (.int _ _)) hK;simp[execOp,resolve,invoke,builtin,S2 hn h1]
       · cases hev
     · cases hev
   · rename_i s x hx;rw[hx]at hargs
     split at hev
     · rename_i t u htys
       cases hau:args.toList with
       | nil=>rw[hau]at hargs;cases hargs
       | cons y ys =>
        rw[hau]at hargs;simp only[List.map_cons]at hargs
        cases hargs with
        | cons h1 h2 =>
        cases ys with
        | nil=>cases h2
        | cons y2 ys =>
        simp only[List.map_cons]at h2
        cases h2 with
        | cons h3 h4 =>
        cases ys with
        | cons=>cases h4
        | nil =>
        have hA:args = #[y,y2]:=by apply Array.ext';simpa using hau
        have hT:tys = #[t,u]:=by apply Array.ext';simpa using htys
        subst hA hT;refine xO (s:=Builtin.append_ #[t,u] ty #[a.eval y,a.eval y2]) ?_ (QS hS hO hev h1 h3 ty) hK;simp[execOp,resolve,invoke,builtin]
     · cases hev
   · rename_i k x k' y hx;rw[hx]at hargs
     split at hev
     · rename_i hk;subst hk
       cases hev
       cases hau:args.toList with
       | nil=>rw[hau]at hargs;cases hargs
       | cons z zs =>
        rw[hau]at hargs;simp only[List.map_cons]at hargs
        cases hargs with
        | cons h1 h2 =>
        cases zs with
        | nil=>cases h2
        | cons z2 zs =>
        simp only[List.map_cons]at h2
        cases h2 with
        | cons h3 h4 =>
        cases zs with
        | cons=>cases h4
        | nil =>
        have hA:args = #[z,z2]:=by apply Array.ext';simpa using hau
        subst hA;have hg1:=tw h1;have hg2:=tw h3;refine vV hS (u:=.int k (if y<x then y else x)) ?_ (.t _ _ (.int _ _)) hK;simp[execOp,resolve,invoke,builtin,Builtin.min_,Builtin.min2,hg1,hg2]
     · cases hev
   · rename_i k x k' y hx;rw[hx]at hargs
     split at hev
     · rename_i hk;subst hk
       cases hev
       cases hau:args.toList with
       | nil=>rw[hau]at hargs;cases hargs
       | cons z zs =>
        rw[hau]at hargs;simp only[List.map_cons]at hargs
        cases hargs with
        | cons h1 h2 =>
        cases zs with
        | nil=>cases h2
        | cons z2 zs =>
        simp only[List.map_cons]at h2
        cases h2 with
        | cons h3 h4 =>
        cases zs with
        | cons=>cases h4
        | nil =>
        have hA:args = #[z,z2]:=by apply Array.ext';simpa using hau
        subst hA;have hg1:=tw h1;have hg2:=tw h3;refine vV hS (u:=.int k (if y > x then y else x)) ?_ (.t _ _ (.int _ _)) hK;simp[execOp,resolve,invoke,builtin,Builtin.max_,Builtin.max2,hg1,hg2]
     · cases hev
   · cases hev
  | value x =>
   simp only[zU]at hev
   split at hev
   · rename_i g caps hf;obtain⟨vs,hvs,hcaps⟩:=UD hf (yO (P:=P) he 0 x);have hargs:=sB (P:=P) he args.toList tys.toList;obtain⟨⟨fn,f1,f2,f3⟩,hcall⟩:=W8 hS hO.blk hB hrec hz hev (us:=args.map a.eval++vs) (by rw[Array.toList_append,Array.toList_map];exact yY hargs hcaps);unfold Oper.wp;have hex:(execOp a.eval ⟨dst,.call ⟨.value x,args,tys⟩,ty,pos,after,guard⟩).run P w=.ok (.enter g (args.map a.eval++vs)) w:=by
      simp only[execOp,resolve,hvs,Deferred.ofValue,Sem.run_bind,Sem.run_pure,Result.andThen_ok,invoke,Array.empty_append];exact bp f1 f2 f3
     rw[hex,Oper.upon_enter];refine hcall.mono ?_
     rintro e' w' ⟨u,F',ρ',rfl,k1,k2,k3⟩
     exact hK w' F' ρ' u k1 k2 k3
   · cases hev
  | invoke r m=>simp[zU]at hev
 | _=>simp[zU]at hev
end Go.Proofs.YtefkoljdebekdaaGreatDoor.E

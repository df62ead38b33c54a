/- Joined: E11A E11B E11C E11E. Conditions: those of each lemma. -/
import Derived.Test.YtefkoljdebekdaaGreatDoorsD
set_option linter.unusedVariables false
set_option linter.unusedSimpArgs false
namespace Go.Proofs.YtefkoljdebekdaaGreatDoor.E
variable {P:Program} {w:World} {F:Nat→Prop} {ρ:y9} {Ow:Own} {h:Heap}
theorem cB (hS:St w F ρ Ow h) {w':World} {ρ':y9} (hN:Nxt Ow w F ρ w' F ρ') {r sz:Nat} {es es':List (List V)} (hr:h[r]? = some (.vs sz es))
 (hb:∀ b,Ow b→¬ F b→b<w.heap.size→(∀ r b0 L0,h[r]? = some b0→writes b0=true→ρ r=some (some L0)→L0.b≠b)→w'.heap[b]? = w.heap[b]?)
 (hnew:∀ i j cs x,es'[i]? = some cs→cs[j]? = some (.o x)→oAt h r i j x∧∀ L u,ρ r=some (some L)→cellAt w L i j u→∃ L',ρ' h.length=some (some L')∧cellAt w' L' i j u)
 (hold:∀ k i j x,k≠r→oAt h k i j x→∀ L u,ρ k=some (some L)→cellAt w L i j u→cellAt w' L i j u)
 (hrows:∀ k b L,(h.set r .dead++[.vs sz es'])[k]? = some b→writes b=true→ρ' k=some (some L)→w.heap.size≤L.b∨∃ r0 b0 L0,h[r0]? = some b0∧writes b0=true∧ρ r0=some (some L0)∧L0.b=L.b) :
 ∃ φ',sk w' F ρ' Ow (h.set r .dead++[.vs sz es']) φ':=by
 obtain⟨φ,hφ⟩:=hS.own;have hrl:=(List.getElem?_eq_some_iff.1 hr).1;have split:∀ k i j x,oAt (h.set r .dead++[.vs sz es']) k i j x→(k=h.length∧∃ cs,es'[i]? = some cs∧cs[j]? = some (.o x))∨(k≠r∧k<h.length∧oAt h k i j x):=fun k i j x ho=>by
  obtain⟨s,e,cs,h1,h2,h3⟩:=ho
  by_cases hk:k<h.length
  · rw[List.getElem?_append_left (by simpa using hk)]at h1;obtain⟨h4,h5⟩:=ja h1 (by simp);exact .inr ⟨h4,hk,s,e,cs,h5,h2,h3⟩
  · rw[List.getElem?_append_right (by simp;omega)]at h1;simp only[List.length_set]at h1;have:k - h.length=0:=by
     rcases Nat.eq_zero_or_pos (k - h.length) with h0|h0
     · exact h0
     · rw[List.getElem?_eq_none (by simp;omega)]at h1;cases h1
    rw[this]at h1;simp at h1;obtain⟨rfl,rfl⟩:=h1;exact .inl ⟨by omega,cs,h2,h3⟩
 have stays:∀ r i j b,φ r i j b→w'.heap[b]? = w.heap[b]? := fun r i j b hx=>by
  obtain⟨_,h2,h3,h4⟩:=hφ.act r i j b hx;exact hb b h3 h2 h4 fun r' b0 L0 k1 k2 k3=>hφ.apart r i j b r' b0 L0 hx k1 k2 k3
 refine⟨fun k i j b=>(k=h.length∧φ r i j b∧∃ cs x,es'[i]? = some cs∧cs[j]? = some (.o x))∨(k≠r∧k<h.length∧φ k i j b),⟨fun k i j x ho=>?_,fun k i j b hx=>?_,fun k i j k' i' j' b h1 h2=>?_,fun k i j b r' b' L' h1 h2 h3 h4 he=>?_⟩⟩
 · rcases split k i j x ho with⟨rfl,cs,h1,h2⟩|⟨h1,h2,h3⟩
   · obtain⟨k1,k2⟩:=hnew i j cs x h1 h2;obtain⟨L,u,k3,k4,k5⟩:=hφ.cell r i j x k1;obtain⟨L',k6,k7⟩:=k2 L u k3 k4;exact⟨L',u,k6,k7,k5.mono fun b hb'=>⟨.inl ⟨rfl,hb',cs,x,h1,h2⟩,stays r i j b hb'⟩⟩
   · obtain⟨L,u,k3,k4,k5⟩:=hφ.cell k i j x h3;exact⟨L,u,hN.ext _ _ k3,hold k i j x h1 h3 L u k3 k4,k5.mono fun b hb'=>⟨.inr ⟨h1,h2,hb'⟩,stays k i j b hb'⟩⟩
 · rcases hx with⟨rfl,h1,cs,x,h2,h3⟩|⟨h1,h2,h3⟩
   · obtain⟨_,k2,k3,k4⟩:=hφ.act r i j b h1;exact⟨⟨x,sz,es',cs,by simp,h2,h3⟩,k2,k3,Nat.lt_of_lt_of_le k4 hN.size⟩
   · obtain⟨⟨x,s,e,cs,q1,q2⟩,k2,k3,k4⟩:=hφ.act k i j b h3;exact⟨⟨x,s,e,cs,by rw[List.getElem?_append_left (by simpa using h2),List.getElem?_set_ne (Ne.symm h1)];exact q1,q2⟩,k2,k3,Nat.lt_of_lt_of_le k4 hN.size⟩
 · rcases h1 with⟨rfl,h1,_⟩|⟨h1,h1',h1''⟩<;>rcases h2 with⟨rfl,h2,_⟩|⟨h2,h2',h2''⟩
   · exact⟨rfl,(hφ.sep r i j r i' j' b h1 h2).2⟩
   · exact absurd (hφ.sep r i j k' i' j' b h1 h2'').1.symm h2
   · exact absurd (hφ.sep k i j r i' j' b h1'' h2).1 h1
   · exact hφ.sep k i j k' i' j' b h1'' h2''
 · have hx:∃ k0,φ k0 i j b:=by
    rcases h1 with⟨_,h1,_⟩|⟨_,_,h1⟩
    · exact⟨r,h1⟩
    · exact⟨k,h1⟩
   obtain⟨k0,hx⟩:=hx;rcases hrows r' b' L' h2 h3 h4 with h5|⟨r0,b0,L0,q1,q2,q3,q4⟩
   · have:=(hφ.act k0 i j b hx).2.2.2;omega
   · exact hφ.apart k0 i j b r0 b0 L0 hx q1 q2 q3 (q4.trans he)
theorem pZ {α:Type}{R:Value→α→Prop}{L:Loc}{es:List (List α)}(hr:xw w L es R)(hpos:0<L.sz) :
 ∃ vals:List Value,vals.length=es.length*L.sz∧vg R vals es.flatten∧(∀ k u,vals[k]? = some u→w.cell? ⟨L.b,L.o+k,none⟩=some u)∧∀ i j u,cellAt w L i j u→i<es.length→j<L.sz→vals[i*L.sz+j]? = some u:=by
 obtain⟨hn,hl,cc,el,fr,hh,hs,hf,hz,hc⟩:=hr;have hlen:=w9 hl;have hlook:∀ k,k<es.length*L.sz→∃ y u,es.flatten[k]? = some y∧R u y∧cc[L.o+k]? = some u:=fun k hk=>by
  have h1:k / L.sz<es.length:=(Nat.div_lt_iff_lt_mul hpos).2 hk;have h2:k % L.sz<L.sz:=Nat.mod_lt _ hpos;have h3:=Nat.div_add_mod k L.sz;have h4:(es[k / L.sz]'h1).length=L.sz:=hl _ (List.getElem_mem h1);have hget:=flat_get hl (List.getElem?_eq_getElem h1) (List.getElem?_eq_getElem (show k % L.sz<(es[k / L.sz]'h1).length by omega));rw[show k / L.sz*L.sz+k % L.sz=k by rw[Nat.mul_comm];omega]at hget;obtain⟨u,hu,hru⟩:=hc _ _ _ _ (List.getElem?_eq_getElem h1) (List.getElem?_eq_getElem (show k % L.sz<(es[k / L.sz]'h1).length by omega));rw[show k / L.sz*L.sz+k % L.sz=k by rw[Nat.mul_comm];omega]at hu;exact⟨_,u,hget,hru,hu⟩
 have hcell:∀ k u,cc[L.o+k]? = some u→w.cell? ⟨L.b,L.o+k,none⟩=some u:=fun k u hu=>by
  unfold World.cell?;rw[hh];simpa using hu
 refine⟨(List.range (es.length*L.sz)).map fun k=>(cc[L.o+k]?).getD undef,by simp,x6 (by simp[hlen]) fun k u v hu hv=>?_,fun k u hu=>?_,fun i j u hu hi hj=>?_⟩
 · have hkl:k<es.length*L.sz:=by have:=(List.getElem?_eq_some_iff.1 hu).1;simpa using this
   obtain⟨y,u',h1,h2,h3⟩:=hlook k hkl;simp[hkl,h3]at hu;subst hu;rw[h1]at hv;cases hv;exact h2
 · have hkl:k<es.length*L.sz:=by have:=(List.getElem?_eq_some_iff.1 hu).1;simpa using this
   obtain⟨y,u',h1,h2,h3⟩:=hlook k hkl;simp[hkl,h3]at hu;subst hu;exact hcell k _ h3
 · obtain⟨c,el',fr',q1,q2⟩:=hu;rw[hh]at q1;cases q1;have:(i+1)*L.sz≤es.length*L.sz:=Nat.mul_le_mul_right _ (by omega);rw[Nat.add_mul]at this;have hkl:i*L.sz+j<es.length*L.sz:=by omega
   simp[hkl,q2]
theorem Q2 (hS:St w F ρ Ow h) {tx e':TypeId} {n:Nat} (he':P.underlying tx=some (.slice e')) {r sz:Nat} {es:List (List V)} (hb:h[r]? = some (.vs sz es)) (hok:(es.all fun c=>c.all y5)=true) (hsz:sz=n) (hpos:0<n) {cap:Option Nat} {u:Value}
 (hu:RV w F ρ u (.sl r 0 es.length cap)):∃ news,Src P n tx u es.length news w∧RVs w F ρ news es.flatten∧∀ e∈es,e.length=n:=by
 rcases hS.blk r _ hb with⟨L,h1,h2,h3,_⟩|⟨h1,h2⟩
 · have hL:L.sz=n:=h2.trans hsz;obtain⟨vals,k1,k2,k3,k4⟩:=pZ h3 (by omega);have hlen:∀ e∈es,e.length=n:=fun e he=>(h3.len e he).trans hL
   have hone:∀ u∈vals,u.oneCell'=true:=fun u hu=>by
    obtain⟨k,hk⟩:=List.mem_iff_getElem?.1 hu;have hkl:=(List.getElem?_eq_some_iff.1 hk).1;obtain⟨v,hv⟩:∃ v,es.flatten[k]? = some v:=⟨_,List.getElem?_eq_getElem (by rw[← zP k2];exact hkl)⟩;obtain⟨u',e1,e2⟩:=yh k2 k v hv;rw[hk]at e1;cases e1;have hvm:v∈es.flatten:=List.mem_of_getElem? hv;obtain⟨c,hc1,hc2⟩:=List.mem_flatten.1 hvm;exact (rE e2 (List.all_eq_true.1 (List.all_eq_true.1 hok c hc1) v hc2)).2.1
   generalize hle:es.length=len at hu
   cases hu with
   | slP r cap a hρ=>rw[h1]at hρ;cases hρ
   | sl r off len cap L' a c hρ ha hl hn hc0 hc1 hz =>
    rw[h1]at hρ;cases hρ;subst hle;refine⟨vals,?_,k2,hlen⟩
    by_cases hl0:es.length=0
    · have hv0:vals=[]:=List.eq_nil_of_length_eq_zero (by rw[k1,hl0];simp);subst hv0;rw[hl0]
      cases a with
      | none=>exact Src.ofNil w he' c
      | some ad=>exact Src.ofSlice w he' ad 0 c [] (by simp) (fun j u hj=>by simp at hj) (fun u hu=>by cases hu)
    · obtain rfl:=ha.resolve_right (by omega);refine Src.ofSlice w he' _ _ _ _ (by rw[k1,hL]) (fun j u hj=>?_) hone;rw[Addr.add_mid];have:=k3 j u hj;simpa using this
 · subst h2
   cases hu with
   | sl r off len cap L a c hρ=>rw[h1]at hρ;cases hρ
   | slP r cap a hρ hc =>
    refine⟨[],?_,.nil,fun e he=>by cases he⟩
    cases a with
    | none=>exact Src.ofNil w he' 0
    | some ad=>exact Src.ofSlice w he' ad 0 0 [] (by simp) (fun j u hj=>by simp at hj) (fun u hu=>by cases hu)
theorem Ue {es es2:List (List V)}(hok:∀ c∈es2,∀ x,V.o x∉c){i j:Nat}{cs:List V}{x:T}(hi:(es++es2)[i]? = some cs)(hj:cs[j]? = some (.o x)):i<es.length∧es[i]? = some cs:=by
 by_cases hil:i<es.length
 · rw[List.getElem?_append_left hil]at hi;exact⟨hil,hi⟩
 · rw[List.getElem?_append_right (by omega)]at hi;exact absurd (List.mem_of_getElem? hj) (hok cs (List.mem_of_getElem? hi) x)
theorem U8 {es2:List (List V)}(hok:(es2.all fun c=>c.all y5)=true):∀ c∈es2,∀ x,V.o x∉c:=fun c hc x hx=>by
 have:=List.all_eq_true.1 (List.all_eq_true.1 hok c hc) _ hx;simp[y5]at this
theorem wR {h0:Heap}{blk b:Blk}{k:Nat}(hk:(h0++[blk])[k]? = some b):(k=h0.length∧b=blk)∨(k<h0.length∧h0[k]? = some b):=by
 by_cases hl:k<h0.length
 · rw[List.getElem?_append_left hl]at hk;exact .inr ⟨hl,hk⟩
 · rw[List.getElem?_append_right (by omega)]at hk;rcases Nat.eq_zero_or_pos (k - h0.length) with h0'|h0'
   · rw[h0']at hk;simp at hk;exact .inl ⟨by omega,hk.symm⟩
   · rw[List.getElem?_eq_none (by simp;omega)]at hk;cases hk
def newAt (h:Heap)(ρ:y9)(l:Option Loc):y9:=fun k=>if k=h.length then some l else ρ k
theorem rR (hS:St w F ρ Ow h)(l:Option Loc):Ext ρ (newAt h ρ l):=fun k l' hk=>by
 unfold newAt;have hne:k≠h.length:=fun e=>by subst e;rw[hS.out _ (Nat.le_refl _)]at hk;cases hk
 rw[if_neg hne];exact hk
theorem rQ (hS:St w F ρ Ow h)(l:Option Loc){h0:Heap}{blk:Blk}(hl:h0.length=h.length):∀ k,(h0++[blk]).length≤k→newAt h ρ l k=none:=fun k hk=>by
 simp at hk;unfold newAt;rw[if_neg (by omega)];exact hS.out k (by omega)
theorem jg (hS:St w F ρ Ow h)(hO:OkZ Ow w h)(r sz:Nat):∃ ρ',St w F ρ' Ow (h.set r .dead++[.vs sz []])∧Nxt Ow w F ρ w F ρ'∧ρ' h.length=some none:=by
 have hN:Nxt Ow w F ρ w F (newAt h ρ none):=⟨rfl,rfl,rfl,Nat.le_refl _,fun _ _ _=>rfl,fun _ _=>rfl,fun _ x=>x,fun _ x=>.inl x,rR hS _,fun r hr=>by simp[newAt,Nat.ne_of_lt (hO.z r hr)]⟩;refine⟨_,hS.next hN (rQ hS _ (by simp)) hS.fsz (fun k b hk=>?_) (hS.owned hN (fun b _ hF _ _=>⟨rfl,hF⟩) (fun k i j x ho=>⟨?_,fun _ _ _ hx=>hx⟩) fun k b L hk hw hL=>?_),hN,by simp[newAt]⟩
 · rcases wR hk with⟨rfl,rfl⟩|⟨hl,hk⟩
   · exact .inr ⟨.inr ⟨by simp[newAt],rfl⟩,fun L hL=>by simp[newAt]at hL⟩
   · rw[List.getElem?_set]at hk
     split at hk
     · split at hk
       · cases hk;exact .inr ⟨trivial,fun L' _ hw=>by simp[writes]at hw⟩
       · cases hk
     · exact .inl ⟨hk,fun L hL hw=>⟨rfl,((hS.blk k b hk).vX hw hL).1⟩⟩
 · obtain⟨s,e,cs,h1,h2,h3⟩:=ho;rcases wR h1 with⟨_,h4⟩|⟨_,h4⟩
   · cases h4;simp at h2
   · exact⟨s,e,cs,(ja h4 (by simp)).2,h2,h3⟩
 · rcases wR hk with⟨rfl,rfl⟩|⟨hl,hk⟩
   · simp[newAt]at hL
   · exact .inr (hS.same hN.ext (wm hk hw).2 hw hL)
def Tf (w:World)(ρ:y9)(k sz o:Nat)(news:List Value):Prop:=news=[]∨∃ L,ρ k=some (some L)∧L.sz=sz∧∀ m u,news[m]? = some u→∃ c el fr,w.heap[L.b]? = some (.cells c el fr)∧c[L.o+(o+m)]? = some u
theorem cP (hS:St w F ρ Ow h) (hO:OkZ Ow w h) {el:TypeId} {i:TypeInfo} {z:Value} (hzs:z.cells.size=i.size) {r:Nat} {es es2:List (List V)} (hb:h[r]? = some (.vs i.size es)) (hok:∀ c∈es2,∀ x,V.o x∉c)
 {olds news:List Value} (hes:∀ e∈es++es2,e.length=i.size) {c0:Nat} (hc0:c0<es.length+es2.length) (hro:RVs w F ρ olds es.flatten) (hrn:RVs w F ρ news es2.flatten) (h1:0<i.size)
 (hcell:∀ k j L u,ρ r=some (some L)→cellAt w L k j u→k<es.length→j<i.size→olds[k*i.size+j]? = some u) :
 ∃ ρ',St (w.drew.alloc (.cells ((olds++news).toArray++Builtin.zeroCells z.cells (grownCap w (es.length+es2.length) c0 el - (es.length+es2.length))) el)) F ρ' Ow (h.set r .dead++[.vs i.size (es++es2)]) ∧
  Nxt Ow w F ρ (w.drew.alloc (.cells ((olds++news).toArray++Builtin.zeroCells z.cells (grownCap w (es.length+es2.length) c0 el - (es.length+es2.length))) el)) F ρ' ∧
  RV (w.drew.alloc (.cells ((olds++news).toArray++Builtin.zeroCells z.cells (grownCap w (es.length+es2.length) c0 el - (es.length+es2.length))) el)) F ρ' (.slice (some ⟨w.heap.size,0,none⟩) (es.length+es2.length) (grownCap w (es.length+es2.length) c0 el)) (.sl h.length 0 (es.length+es2.length) none) ∧
  Tf (w.drew.alloc (.cells ((olds++news).toArray++Builtin.zeroCells z.cells (grownCap w (es.length+es2.length) c0 el - (es.length+es2.length))) el)) ρ' h.length i.size (es.length*i.size) news:=by
 have hr:RVs w F ρ (olds++news) (es++es2).flatten:=by rw[List.flatten_append];exact yY hro hrn
 have hfl:=zP hr;have hfl':=w9 hes;have hge:=grownCap_ge w (es.length+es2.length) c0 el;generalize hgc:grownCap w (es.length+es2.length) c0 el=gc at *;generalize harr:(olds++news).toArray++Builtin.zeroCells z.cells (gc - (es.length+es2.length))=arr;have hsize:arr.size=gc*i.size:=by
  rw[← harr];simp only[Array.size_append,List.size_toArray,size_zeroCells,hzs,hfl,hfl',List.length_append,← Nat.add_mul]
  congr 1
  omega
 have hsz:(es.length+es2.length)*i.size≤gc*i.size:=Nat.mul_le_mul_right _ hge;have hget:∀ k u,(olds++news)[k]? = some u→arr[k]? = some u:=fun k u hk=>by
  have hkl:=(List.getElem?_eq_some_iff.1 hk).1;rw[← harr,Array.getElem?_append_left (by simpa using hkl)];simpa using hk
 have hheap:(w.drew.alloc (.cells arr el)).heap[w.heap.size]? = some (.cells arr el):=ny w.drew _;have hoth:∀ b,b<w.heap.size→(w.drew.alloc (.cells arr el)).heap[b]? = w.heap[b]? := fun b hb=>by
  have e:w.drew.heap=w.heap:=rfl;simp[xJ,e,Array.getElem?_push,Nat.ne_of_lt hb]
 have hN:Nxt Ow w F ρ (w.drew.alloc (.cells arr el)) F (newAt h ρ (some ⟨w.heap.size,0,i.size,es.length+es2.length,arr.size⟩)) :=
  ⟨rfl,rfl,rfl,by simp[xJ],fun b hb _=>hoth b hb,fun b hb=>hoth b (hS.fsz b hb),fun _ x=>x,fun _ x=>.inl x,rR hS _,fun r hr=>by simp[newAt,Nat.ne_of_lt (hO.z r hr)]⟩
 have hnF:¬ F w.heap.size:=fun x=>by have:=hS.fsz _ x;omega
 have hlow:∀ k b L,h[k]? = some b→writes b=true→ρ k=some (some L)→L.b<w.heap.size:=fun k b L hb hw hL=>((hS.blk k b hb).vX hw hL).2.2
 refine⟨_,hS.next hN (rQ hS _ (by simp)) (fun b hb=>Nat.lt_of_lt_of_le (hS.fsz b hb) hN.size) (fun k b hk=>?_) (cB hS hN hb (fun b _ _ hlt _=>hoth b hlt) (fun a j cs x hi hj=>?_) (fun k a j x hne ho L u hL hu=>?_) fun k b L hk hw hL=>?_),hN,?_,.inr ⟨⟨w.heap.size,0,i.size,es.length+es2.length,arr.size⟩,by simp[newAt],rfl,fun m u hm=>⟨arr,el,(0,0),hheap,?_⟩⟩⟩
 · rcases wR hk with⟨hkl,rfl⟩|⟨hl,hk⟩
   · have hkl:k=h.length:=by simpa using hkl
     subst hkl;refine .inr ⟨.inl ⟨⟨w.heap.size,0,i.size,es.length+es2.length,arr.size⟩,by simp[newAt],rfl,⟨by simp,hes,arr,el,(0,0),hheap,rfl,fun k _=>by simp,by simp only[Nat.zero_add];rw[hsize];exact hsz,fun a j cs x hi hj=>?_⟩,hnF,hO.blk _ (Nat.le_refl _)⟩,fun L hL hw r' b' L' hne hr' hw' hL'=>?_⟩
     · obtain⟨u,hu,hru⟩:=yh hr _ _ (flat_get hes hi hj);exact⟨u,by simpa using hget _ u hu,hN.rv hru⟩
     · simp[newAt]at hL;subst hL;simp only[newAt,hne,if_false]at hL';rcases wR hr' with⟨h5,_⟩|⟨_,h5⟩
       · exact absurd (by simpa using h5) hne
       · have:=hlow r' b' L' (wm h5 hw').2 hw' hL';simp;omega
   · rw[List.getElem?_set]at hk
     split at hk
     · split at hk
       · cases hk;exact .inr ⟨trivial,fun L' _ hw=>by simp[writes]at hw⟩
       · cases hk
     · exact .inl ⟨hk,fun L hL hw=>⟨hoth _ (hlow k b L hk hw hL),((hS.blk k b hk).vX hw hL).1⟩⟩
 · obtain⟨hil,hi'⟩:=Ue hok hi hj;refine⟨⟨_,_,cs,hb,hi',hj⟩,fun L u hL hu=>⟨⟨w.heap.size,0,i.size,es.length+es2.length,arr.size⟩,by simp[newAt],arr,el,(0,0),hheap,?_⟩⟩;have hjl:j<i.size:=by
    have:=(List.getElem?_eq_some_iff.1 hj).1
    rwa [hes cs (List.mem_append_left _ (List.mem_of_getElem? hi'))]at this
   have:=hcell a j L u hL hu hil hjl;have hlt:=(List.getElem?_eq_some_iff.1 this).1;simpa using hget _ u (by rw[List.getElem?_append_left hlt];exact this)
 · obtain⟨c,el',fr,q1,q2⟩:=hu;exact⟨c,el',fr,(hoth _ (Array.getElem?_eq_some_iff.1 q1).1).trans q1,q2⟩
 · rcases wR hk with⟨hkl,rfl⟩|⟨hl,hk⟩
   · have hkl:k=h.length:=by simpa using hkl
     subst hkl;simp[newAt]at hL;subst hL;exact .inl (Nat.le_refl _)
   · exact .inr (hS.same hN.ext (wm hk hw).2 hw hL)
 · refine .sl h.length 0 _ none ⟨w.heap.size,0,i.size,es.length+es2.length,arr.size⟩ _ _ (by simp[newAt]) (.inl (by simp)) hge (by simp) (fun _=>by simp;omega) (fun k hk=>by cases hk) (fun _=>by simp only[Nat.zero_add];rw[hsize];exact Nat.le_refl _)
 · have ho:=zP hro;have hfo:=w9 (sz:=i.size) (es:=es) fun e he=>hes e (List.mem_append_left _ he)
   have:=hget (es.length*i.size+m) u (by rw[List.getElem?_append_right (by omega),show es.length*i.size+m - olds.length=m by omega];exact hm);simpa using this
theorem iw (hS:St w F ρ Ow h) (hO:OkZ Ow w h) {r sz:Nat} {es es2:List (List V)} {L:Loc} (hb:h[r]? = some (.vs sz es)) (hL:ρ r=some (some L)) (hsz:L.sz=sz) (hrow:xw w L es (RV w F ρ)) (hF:¬ F L.b) (hOw:Ow L.b)
 (hok:∀ c∈es2,∀ x,V.o x∉c) {news:List Value} (hnews:RVs w F ρ news es2.flatten) (hxs:∀ e∈es2,e.length=sz) {c:Nat} (hc:es.length+es2.length≤c) (hz:L.o+c*L.sz≤L.z) :
 ∃ ρ',St (w.setCells L.b (L.o+es.length*L.sz) news) F ρ' Ow (h.set r .dead++[.vs sz (es++es2)])∧Nxt Ow w F ρ (w.setCells L.b (L.o+es.length*L.sz) news) F ρ' ∧
  RV (w.setCells L.b (L.o+es.length*L.sz) news) F ρ' (.slice (some ⟨L.b,L.o,none⟩) (es.length+es2.length) c) (.sl h.length 0 (es.length+es2.length) none)∧w.there L.b (L.o+es.length*L.sz) news.length ∧
  Tf (w.setCells L.b (L.o+es.length*L.sz) news) ρ' h.length sz (es.length*sz) news:=by
 subst hsz;have hrow':=hrow;obtain⟨hn,hl,cc,el',fr,hh,hs,hf,hzz,hcc⟩:=hrow;have hfl:=zP hnews;have hfl':=w9 hxs;have hmul:(es.length+es2.length)*L.sz≤c*L.sz:=Nat.mul_le_mul_right _ hc;rw[Nat.add_mul]at hmul;obtain⟨c',k1,k2,k3⟩:=xc news L.b (L.o+es.length*L.sz) w cc el' fr hh (by omega);have hN0:=nt hS hF hOw (L.o+es.length*L.sz) news;have hN:Nxt Ow w F ρ (w.setCells L.b (L.o+es.length*L.sz) news) F (newAt h ρ (some ⟨L.b,L.o,L.sz,es.length+es2.length,L.z⟩)) :=
  ⟨hN0.os,hN0.tape,hN0.output,hN0.size,hN0.keep,hN0.agree,hN0.grow,hN0.new,rR hS _,fun r hr=>by simp[newAt,Nat.ne_of_lt (hO.z r hr)]⟩
 have hfar:∀ b,b≠L.b→(w.setCells L.b (L.o+es.length*L.sz) news).heap[b]? = w.heap[b]? := fun b hne=>x5 _ _ _ _ _ hne
 have hoff:∀ k b L',h[k]? = some b→writes b=true→ρ k=some (some L')→k≠r→L'.b≠L.b:=fun k b L' h1 h2 h3 hne e=>hne (hS.inj k r b _ L' L h1 hb h2 rfl h3 hL e)
 refine⟨_,hS.next hN (rQ hS _ (by simp)) (fun b hb=>by rw[setCells_size];exact hS.fsz b hb) (fun k b hk=>?_) (cB hS hN hb (fun b _ _ _ hne=>hfar b fun e=>hne r _ L hb rfl hL e.symm) (fun a j cs x hi hj=>?_) (fun k a j x hne ho L' u hL' hu=>?_) fun k b L' hk hw hL'=>?_),hN,?_,r7 hh hf (by omega),.inr ⟨⟨L.b,L.o,L.sz,es.length+es2.length,L.z⟩,by simp[newAt],rfl,fun m u hm=>⟨c',el',fr,k1,?_⟩⟩⟩
 · rcases wR hk with⟨hkl,rfl⟩|⟨hkl,hk⟩
   · have hkl:k=h.length:=by simpa using hkl
     subst hkl;refine .inr ⟨.inl ⟨⟨L.b,L.o,L.sz,es.length+es2.length,L.z⟩,by simp[newAt],rfl,⟨by simp,fun e he=>?_,c',el',fr,k1,by simpa using k2.trans hs,fun k hk=>hf k (by omega),by simp only[Nat.add_mul];omega,fun i j cs x hi hj=>?_⟩,hF,hOw⟩,fun L1 hL1 hw r2 b2 L2 hne hr2 hw2 hL2=>?_⟩
     · rcases List.mem_append.1 he with he|he
       · exact hl e he
       · exact hxs e he
     · simp only;rw[k3]
       by_cases hil:i<es.length
       · rw[List.getElem?_append_left hil]at hi;have hjl:j<L.sz:=by
          have:=(List.getElem?_eq_some_iff.1 hj).1
          rwa [hl cs (List.mem_of_getElem? hi)]at this
         have:(i+1)*L.sz≤es.length*L.sz:=Nat.mul_le_mul_right _ (by omega);rw[Nat.add_mul]at this;rw[if_neg (by omega)];obtain⟨u,hu,hru⟩:=hcc _ _ _ _ hi hj;exact⟨u,hu,hN.rv hru⟩
       · rw[List.getElem?_append_right (by omega)]at hi;have hjl:j<L.sz:=by
          have:=(List.getElem?_eq_some_iff.1 hj).1
          rwa [hxs cs (List.mem_of_getElem? hi)]at this
         have hil':=(List.getElem?_eq_some_iff.1 hi).1;have a1:(i - es.length+1)*L.sz≤es2.length*L.sz:=Nat.mul_le_mul_right _ (by omega);have a2:i*L.sz=es.length*L.sz+(i - es.length)*L.sz:=by rw[← Nat.add_mul];congr 1;omega
         rw[Nat.add_mul]at a1;rw[if_pos (by omega)];obtain⟨u,hu,hru⟩:=yh hnews _ _ (flat_get hxs hi hj);refine⟨u,?_,hN.rv hru⟩;rw[← hu]
         congr 1
         omega
     · simp[newAt]at hL1;subst hL1;simp only[newAt,hne,if_false]at hL2;rcases wR hr2 with⟨h5,_⟩|⟨_,h5⟩
       · exact absurd (by simpa using h5) hne
       · obtain⟨h6,h7⟩:=wm h5 hw2;exact hoff r2 b2 L2 h7 hw2 hL2 h6
   · by_cases hkr:k=r
     · subst hkr;have hrl:=(List.getElem?_eq_some_iff.1 hb).1;simp[hrl]at hk;subst hk;exact .inr ⟨trivial,fun L' _ hw=>by simp[writes]at hw⟩
     · rw[List.getElem?_set_ne (Ne.symm hkr)]at hk;exact .inl ⟨hk,fun L' hL' hw=>⟨hfar _ (hoff k b L' hk hw hL' hkr),((hS.blk k b hk).vX hw hL').1⟩⟩
 · obtain⟨hil,hi'⟩:=Ue hok hi hj;have hjl:j<L.sz:=by
    have:=(List.getElem?_eq_some_iff.1 hj).1
    rwa [hl cs (List.mem_of_getElem? hi')]at this
   have:(a+1)*L.sz≤es.length*L.sz:=Nat.mul_le_mul_right _ (by omega);rw[Nat.add_mul]at this;refine⟨⟨_,_,cs,hb,hi',hj⟩,fun L' u hL' hu=>⟨⟨L.b,L.o,L.sz,es.length+es2.length,L.z⟩,by simp[newAt],c',el',fr,k1,?_⟩⟩;rw[hL]at hL';cases hL';obtain⟨c1,el1,fr1,q1,q2⟩:=hu;rw[hh]at q1;cases q1;simp only;rw[k3,if_neg (by omega)];exact q2
 · obtain⟨s,e,cs,q1,_⟩:=ho;exact v7 (hfar _ (hoff k _ L' q1 rfl hL' hne)) hu
 · rcases wR hk with⟨hkl,rfl⟩|⟨hkl,hk⟩
   · have hkl:k=h.length:=by simpa using hkl
     subst hkl;simp[newAt]at hL';subst hL';exact .inr ⟨r,_,L,hb,rfl,hL,rfl⟩
   · exact .inr (hS.same hN.ext (wm hk hw).2 hw hL')
 · refine .sl _ _ _ _ ⟨L.b,L.o,L.sz,es.length+es2.length,L.z⟩ _ _ (by simp[newAt]) (.inl (by simp)) hc (by simp) (fun _=>by simp;omega) (fun k hk=>by cases hk) (fun _=>by simpa using hz)
 · have hml:=(List.getElem?_eq_some_iff.1 hm).1;simp only;rw[k3,if_pos (by omega),← hm]
   congr 1
   omega
theorem VH (hS:St w F ρ Ow h)(hO:OkZ Ow w h){ty tx:TypeId}{s x v:V}{h':Heap}(hc:yf P ty tx s x h=some (v,h')){us ux:Value}(hs:RV w F ρ us s)(hx:RV w F ρ ux x)(rt:TypeId) :
 xx P w F ρ Ow (Builtin.append_ #[ty,tx] rt #[us,ux]) v h':=by
 unfold yf at hc
 split at hc
 rotate_left
 · cases hc
 rename_i el e2 hel hel2;obtain⟨hty,inf0,hinf0⟩:=xW hel;obtain⟨htx,_,_⟩:=xW hel2
 split at hc
 rotate_left
 · cases hc
 rename_i r off len cap r2 off2 len2 cap2
 split at hc
 rotate_left
 · cases hc
 rename_i sz es sz2 es2 hb hb2
 split at hc
 rotate_left
 · cases hc
 rename_i hcond;obtain⟨c1,c2,c3,c4,c5,c6,c7,c8,c9,c10,c11,c12⟩:=hcond
 cases hc;subst c1 c5 c6 c7 c8;obtain⟨zs,hzz⟩:=Option.isSome_iff_exists.1 c12;obtain⟨inf,zv,i1,i2,i3,i4,i5⟩:=wT (w:=w) (F:=F) (ρ:=ρ) hzz;have hszi:inf.size=zC P el:=by simp[zC,Program.cellsOf,i1]
 have hby:P.bytesOf el=inf.bytes:=by simp[Program.bytesOf,i1]
 obtain⟨news,k1,k2,k3⟩:=Q2 hS htx hb2 c9 c2 c3 hx;have hlenO:∀ L,xw w L es (RV w F ρ)→L.sz=zC P el→∀ e∈es++es2,e.length=inf.size:=fun L h3 hL e he=>by
  rw[hszi];rcases List.mem_append.1 he with h1|h1
  · exact (h3.len e h1).trans hL
  · exact k3 e h1
 generalize hle:es.length=len at hs;have grows:∀ (a:Option Addr) (c:Nat) (olds:List Value),us=.slice a es.length c→c<es.length+es2.length→(Builtin.firstCells inf.size es.length (.slice a es.length c)).run P w.drew=.ok olds.toArray w.drew→RVs w F ρ olds es.flatten →
  (∀ e∈es++es2,e.length=inf.size)→(∀ k j L u,ρ r=some (some L)→cellAt w L k j u→k<es.length→j<inf.size→olds[k*inf.size+j]? = some u) →
  xx P w F ρ Ow (Builtin.append_ #[ty,tx] rt #[us,ux]) (.sl h.length 0 (es.length+es2.length) none) (h.set r .dead++[.vs (zC P el) (es++es2)]):=by
  intro a c olds hus hlt hfirst holds hlens hcell;subst hus;obtain⟨ρ',g1,g2,g3,_⟩:=cP (el:=el) hS hO (z:=zv) i3 (by rw[hszi];exact hb) (U8 c9) hlens hlt holds k2 (by omega) hcell;refine⟨_,F,ρ',_,run_append_grow_src w ty tx rt el inf zv hty i1 i2 a es.length c olds hfirst ux es2.length news (by rw[hszi];exact k1) hlt (by unfold ya at c11;omega) (lr hlt (by rw[← hby];exact c10)),g3,?_,g2⟩;rw[hszi]at g1;exact g1
 have empty:es.length+es2.length=0→∀ a:Option Addr,us=.slice a 0 0→xx P w F ρ Ow (Builtin.append_ #[ty,tx] rt #[us,ux]) (.sl h.length 0 (es.length+es2.length) none) (h.set r .dead++[.vs (zC P el) (es++es2)]):=by
  intro h0 a hus;subst hus;have hx0:es2=[]:=List.eq_nil_of_length_eq_zero (by omega);have hes:es=[]:=List.eq_nil_of_length_eq_zero (by omega);subst hx0;subst hes;obtain⟨ρ',g1,g2,g3⟩:=jg hS hO r (zC P el);refine⟨w,F,ρ',.slice a 0 0,?_,by simpa using RV.slP h.length none a g3 (.inl rfl),by simpa using g1,g2⟩;have hlen:=k1.len w;have hcl:=k1.cells;have hn0:news=[]:=List.eq_nil_of_length_eq_zero (by simpa using k1.newsLen);subst hn0;simp only[List.length_nil]at hlen hcl;rcases k1.kind with⟨e',hk⟩|hk<;>cases a <;>
   simp[Builtin.append_,zF hty,zF hk,run_sizeOf i1,hlen,hcl,storeCells]
 rcases hS.blk r _ hb with⟨L,h1,h2,h3,h4,h5⟩|⟨h1,h2⟩
 · cases hs with
   | slP r cap a hρ=>rw[h1]at hρ;cases hρ
   | sl r off len cap L' a c hρ ha hl hn hc0 hc1 hzz =>
    rw[h1]at hρ;cases hρ;subst hle;simp only[Nat.zero_mul,Nat.add_zero,Nat.zero_add]at ha hzz
    by_cases hroom:es.length+es2.length≤c
    · by_cases hce:c=0
      · subst hce;have h0:es.length=0:=by omega
        exact empty (by omega) a (by rw[h0])
      · obtain rfl:=ha.resolve_right hce;obtain⟨ρ',g1,g2,g3,g4,_⟩:=iw hS hO hb h1 h2 h3 h4 h5 (U8 c9) k2 k3 hroom (hzz hce);refine⟨_,F,ρ',_,?_,g3,g1,g2⟩;have:=run_append_room_src (P:=P) w ty tx rt el inf hty i1 L.b L.o es.length c ux es2.length news (by rw[hszi];exact k1) hroom
         (fun j hj=>by rw[hszi,← h2];exact (g4 j hj).1) (fun j hj=>by rw[hszi,← h2];exact (g4 j hj).2)
        rw[hszi,← h2]at this;exact this
    · obtain⟨vals,v1,v2,v3,v4⟩:=pZ h3 (by omega);have hlens:=hlenO L h3 h2
      by_cases hl0:es.length=0
      · have hes:es=[]:=List.eq_nil_of_length_eq_zero hl0;refine grows a c [] rfl (by omega) ?_ (by rw[hes];exact .nil) hlens (fun k j L u _ _ hk _=>by omega);rw[hl0]
        cases a<;>simp[Builtin.firstCells,loadCells,loadCellsFrom]
      · obtain rfl:=ha.resolve_right (by omega);refine grows _ c vals rfl (by omega) ?_ v2 hlens (fun k j L' u hL' hu hk hj=>?_)
        · refine run_firstCells_some w.drew inf.size es.length _ es.length c _ (by rw[v1,h2,hszi]) fun j u hj=>?_
          rw[Addr.add_mid];exact v3 j u hj
        · rw[h1]at hL';cases hL';rw[hszi,← h2]at hj ⊢;exact v4 k j u hu hk hj
 · cases hs with
   | sl r off len cap L a c hρ=>rw[h1]at hρ;cases hρ
   | slP r cap a hρ hcp =>
    rw[show 0+es2.length=es.length+es2.length by omega]
    by_cases hn:es2.length=0
    · exact empty (by omega) a rfl
    · refine grows a 0 [] (by rw[hle]) (by omega) ?_ (by rw[h2];exact .nil) (fun e he=>by rw[h2]at he;rw[hszi];exact k3 e (by simpa using he)) (fun k j L u hL=>by rw[h1]at hL;cases hL);rw[hle]
      cases a<;>simp[Builtin.firstCells,loadCells,loadCellsFrom]
theorem hZ {α:Type}{n:Nat}:∀ (es:List (List α)) (off:Nat),(∀ e∈es,e.length=n)→(es.drop off).flatten=es.flatten.drop (off*n)
 | es,0,_=>by simp
 | [],off+1,_=>by simp
 | e::es,off+1,h=>by
  have he:=h e (by simp);have e1:(off+1)*n=e.length+off*n:=by rw[he,Nat.add_mul];omega
  rw[List.drop_succ_cons,hZ es off fun x hx=>h x (by simp[hx]),List.flatten_cons,e1,List.drop_append,List.drop_of_length_le (l:=e) (by omega),List.nil_append,show e.length+off*n - e.length=off*n by omega]
theorem hY {α:Type}{n:Nat}:∀ (es:List (List α)) (len:Nat),(∀ e∈es,e.length=n)→(es.take len).flatten=es.flatten.take (len*n)
 | es,0,_=>by simp
 | [],len+1,_=>by simp
 | e::es,len+1,h=>by
  have he:=h e (by simp);have e1:(len+1)*n=e.length+len*n:=by rw[he,Nat.add_mul];omega
  rw[List.take_succ_cons,List.flatten_cons,List.flatten_cons,hY es len fun x hx=>h x (by simp[hx]),e1,List.take_append,List.take_of_length_le (l:=e) (by omega),show e.length+len*n - e.length=len*n by omega]
theorem VZ {u:Value}{v:V}(h:RV w F ρ u v):RV w F ρ u (unO v):=by
 cases v<;>first|exact h|exact .bad u
theorem Zm (v:V)(x:T):unO v≠.o x:=by cases v<;>simp[unO]
theorem TY (es:List (List V)):∀ c∈es.map (fun c=>c.map unO),∀ x,V.o x∉c:=fun c hc x hx=>by
 obtain⟨c0,_,rfl⟩:=List.mem_map.1 hc;obtain⟨v,_,hv⟩:=List.mem_map.1 hx;exact Zm v x hv
theorem Qh (hS:St w F ρ Ow h){r sz i j:Nat}{es:List (List V)}{cs:List V}{v:V}{u:Value}{L:Loc}(hb:h[r]? = some (.vs sz es))(hL:ρ r=some (some L))(hi:es[i]? = some cs)(hj:cs[j]? = some v)(hu:cellAt w L i j u)(hr:RV w F ρ u v)(hv:mvC v=true):u.oneCell'=true:=by
 by_cases ho:∃ x,v=.o x
 · obtain⟨x,rfl⟩:=ho;obtain⟨φ,hφ⟩:=hS.own;obtain⟨L1,u1,q1,⟨cc1,el1,fr1,q2,q3⟩,q4⟩:=hφ.cell r i j x ⟨_,es,cs,hb,hi,hj⟩;obtain⟨cc,el,fr,p1,p2⟩:=hu;rw[hL]at q1;cases q1;rw[p1]at q2;cases q2;rw[p2]at q3;cases q3
   cases q4 with
   | flat u x S hx hf h=>exact (rk h).2
   | empty a sz S=>rfl
   | list L c es S cc el fr g fp hn hlen hc hz hh hs hf hb hg hr hS hfp sep=>rfl
 · have hv':y5 v=true:=by
    cases v<;>first|exact hv|exact absurd ⟨_,rfl⟩ ho
   exact (rE hr hv').2.1
theorem Q3 (hS:St w F ρ Ow h) {tx e':TypeId} {n:Nat} (he':P.underlying tx=some (.slice e')) {r sz:Nat} {es:List (List V)} (hb:h[r]? = some (.vs sz es)) {off len:Nat} (hok:(((es.drop off).take len).all fun c=>c.all mvC)=true) (hle:off+len≤es.length) (hsz:sz=n) (hpos:0<n) {cap:Option Nat} {u:Value}
 (hu:RV w F ρ u (.sl r off len cap)):∃ news,Src P n tx u len news w∧RVs w F ρ news (((es.drop off).take len).map fun c=>c.map unO).flatten∧(∀ e∈(es.drop off).take len,e.length=n) ∧
  ∀ L i j u,ρ r=some (some L)→cellAt w L (off+i) j u→i<len→j<n→news[i*n+j]? = some u:=by
 rcases hS.blk r _ hb with⟨L,h1,h2,h3,_⟩|⟨h1,h2⟩
 · have hL:L.sz=n:=h2.trans hsz;obtain⟨vals,k1,k2,k3,k4⟩:=pZ h3 (by omega);have hlen:∀ e∈es,e.length=n:=fun e he=>(h3.len e he).trans hL
   rw[hL]at k1 k4;have hmul:(off+len)*n≤es.length*n:=Nat.mul_le_mul_right _ hle;rw[Nat.add_mul]at hmul;have hfl:(((es.drop off).take len).map fun c=>c.map unO).flatten=((es.flatten.drop (off*n)).take (len*n)).map unO:=by
    rw[← hZ es off hlen,← hY _ len fun e he=>hlen e (List.mem_of_mem_drop he),List.map_flatten]
   have hvl:=zP k2;have hnl:((vals.drop (off*n)).take (len*n)).length=len*n:=by simp;omega
   have hget:∀ k u,((vals.drop (off*n)).take (len*n))[k]? = some u→k<len*n∧vals[off*n+k]? = some u:=fun k u hk=>by
    have hkl:=(List.getElem?_eq_some_iff.1 hk).1;rw[hnl]at hkl;rw[List.getElem?_take,if_pos hkl,List.getElem?_drop]at hk;exact⟨hkl,hk⟩
   have hrvs:RVs w F ρ ((vals.drop (off*n)).take (len*n)) (((es.drop off).take len).map fun c=>c.map unO).flatten:=by
    rw[hfl];refine x6 (by rw[List.length_map,List.length_take,List.length_take,List.length_drop,List.length_drop,hvl]) fun k u v hk hv=>?_
    obtain⟨hkl,hk'⟩:=hget k u hk;rw[List.getElem?_map,List.getElem?_take,if_pos hkl,List.getElem?_drop]at hv
    cases hv0:es.flatten[off*n+k]? with
    | none=>rw[hv0]at hv;cases hv
    | some v0 =>
     rw[hv0]at hv
     cases hv;obtain⟨u',e1,e2⟩:=yh k2 _ v0 hv0;rw[hk']at e1;cases e1;exact VZ e2
   have hone:∀ u∈(vals.drop (off*n)).take (len*n),u.oneCell'=true:=fun u hu=>by
    obtain⟨k,hk⟩:=List.mem_iff_getElem?.1 hu;obtain⟨hkl,hk'⟩:=hget k u hk;have d1:k / n<len:=(Nat.div_lt_iff_lt_mul hpos).2 hkl;have d2:k % n<n:=Nat.mod_lt _ hpos;have d3:=Nat.div_add_mod k n;have hil:off+k / n<es.length:=by omega
    have hi:=List.getElem?_eq_getElem hil;have hel:=hlen _ (List.getElem_mem hil);have hjl:k % n<(es[off+k / n]'hil).length:=by omega
    have hj:=List.getElem?_eq_getElem hjl;obtain⟨hn',hl',cc,el,fr,hh,hs,hf,hzz,hcc⟩:=id h3;obtain⟨u',q1,q2⟩:=hcc _ _ _ _ hi hj;have hca:cellAt w L (off+k / n) (k % n) u':=⟨cc,el,fr,hh,q1⟩;have q3:=k4 _ _ u' hca hil d2;have e:(off+k / n)*n+k % n=off*n+k:=by
     rw[Nat.add_mul,Nat.mul_comm (k / n) n];omega
    rw[e,hk']at q3
    cases q3;refine Qh hS hb h1 hi hj hca q2 ?_;have hm:es[off+k / n]'hil∈(es.drop off).take len:=by
     refine List.mem_iff_getElem?.2 ⟨k / n,?_⟩;rw[List.getElem?_take,if_pos d1,List.getElem?_drop];exact hi
    exact List.all_eq_true.1 (List.all_eq_true.1 hok _ hm) _ (List.getElem_mem hjl)
   have hcells:∀ L' i j u,ρ r=some (some L')→cellAt w L' (off+i) j u→i<len→j<n→((vals.drop (off*n)).take (len*n))[i*n+j]? = some u:=fun L' i j u hL' hu hi hj=>by
    rw[h1]at hL';cases hL';have q:=k4 _ _ u hu (by omega) hj;have hij:(i+1)*n≤len*n:=Nat.mul_le_mul_right _ hi;rw[Nat.add_mul]at hij;rw[List.getElem?_take,if_pos (by omega),List.getElem?_drop,← q]
    congr 1
    rw[Nat.add_mul];omega
   have hlens:∀ e∈(es.drop off).take len,e.length=n:=fun e he=>hlen e (List.mem_of_mem_drop (List.mem_of_mem_take he))
   cases hu with
   | slP r cap a hρ=>rw[h1]at hρ;cases hρ
   | sl r off len cap L' a c hρ ha hl hn hc0 hc1 hz =>
    rw[h1]at hρ;cases hρ;refine⟨_,?_,hrvs,hlens,hcells⟩
    by_cases hl0:len=0
    · subst hl0;have hv0:(vals.drop (off*n)).take (0*n)=[]:=by simp
      rw[hv0]
      cases a with
      | none=>exact Src.ofNil w he' c
      | some ad=>exact Src.ofSlice w he' ad 0 c [] (by simp) (fun j u hj=>by simp at hj) (fun u hu=>by cases hu)
    · obtain rfl:=ha.resolve_right (by omega);refine Src.ofSlice w he' _ _ _ _ hnl (fun j u hj=>?_) hone;rw[Addr.add_mid];obtain⟨_,hj'⟩:=hget j u hj;have:=k3 _ u hj';rw[hL];rw[Nat.add_assoc];exact this
 · subst h2;have hl0:off=0∧len=0:=by simp at hle;exact hle
   obtain⟨rfl,rfl⟩:=hl0
   cases hu with
   | sl r off len cap L a c hρ=>rw[h1]at hρ;cases hρ
   | slP r cap a hρ hc =>
    refine⟨[],?_,.nil,fun e he=>by simp at he,fun L i j u hL=>by rw[h1]at hL;cases hL⟩
    cases a with
    | none=>exact Src.ofNil w he' 0
    | some ad=>exact Src.ofSlice w he' ad 0 0 [] (by simp) (fun j u hj=>by simp at hj) (fun u hu=>by cases hu)
theorem mv_st (hS:St w F ρ Ow h) {r2 k sz:Nat} {es es2:List (List V)} {off len:Nat} (hk:h[k]? = some (.vs sz (es++((es2.drop off).take len).map fun c=>c.map unO))) (hr2:h[r2]? = some (.vs sz es2)) (hne:k≠r2) (hle:off+len≤es2.length)
 (hval:∀ i j cs x,((es2.drop off).take len)[i]? = some cs→cs[j]? = some (.o x)→∀ L2 u,ρ r2=some (some L2)→cellAt w L2 (off+i) j u→∃ L',ρ k=some (some L')∧cellAt w L' (es.length+i) j u) :
 St w F ρ Ow ((h.set k (Blk.vs sz (es++(es2.drop off).take len))).set r2 (Blk.vs sz (es2.take off++((es2.drop off).take len).map (fun c=>c.map unO)++es2.drop (off+len)))):=by
 generalize hxs:(es2.drop off).take len=xs at *;have hxl:xs.length=len:=by rw[← hxs];simp;omega
 have hkl:=(List.getElem?_eq_some_iff.1 hk).1;have hrl:=(List.getElem?_eq_some_iff.1 hr2).1;have hxi:∀ i,i<len→xs[i]? = es2[off+i]? := fun i hi=>by rw[← hxs,List.getElem?_take,if_pos hi,List.getElem?_drop]
 have hsrc : ∀ i cs, (es2.take off ++ xs.map (fun c => c.map unO) ++ es2.drop (off + len))[i]? = some cs → (∃ cs0, es2[i]? = some cs0 ∧ ((¬ (off ≤ i ∧ i < off + len) ∧ cs = cs0) ∨ ((off ≤ i ∧ i < off + len) ∧ cs = cs0.map unO))) := fun i cs hi => by
  rw[List.append_assoc]at hi
  by_cases c1:i<off
  · rw[List.getElem?_append_left (by simp;omega),List.getElem?_take,if_pos c1]at hi;exact⟨cs,hi,.inl ⟨by omega,rfl⟩⟩
  · rw[List.getElem?_append_right (by simp;omega)]at hi;simp only[List.length_take,Nat.min_eq_left (show off≤es2.length by omega)]at hi
    by_cases c2:i<off+len
    · rw[List.getElem?_append_left (by simp;omega),List.getElem?_map,hxi _ (by omega),show off+(i - off)=i by omega]at hi
      cases h0:es2[i]? with
      | none=>rw[h0]at hi;cases hi
      | some cs0=>rw[h0]at hi;cases hi;exact⟨cs0,rfl,.inr ⟨by omega,rfl⟩⟩
    · rw[List.getElem?_append_right (by simp;omega),List.getElem?_drop]at hi;simp only[List.length_map,hxl]at hi;rw[show off+len+(i - off - len)=i by omega]at hi;exact⟨cs,hi,.inl ⟨by omega,rfl⟩⟩
 have rows : ∀ a b, ((h.set k (Blk.vs sz (es ++ xs))).set r2 (Blk.vs sz (es2.take off ++ xs.map (fun c => c.map unO) ++ es2.drop (off + len))))[a]? = some b →
  (a=r2∧b=.vs sz (es2.take off++xs.map (fun c=>c.map unO)++es2.drop (off+len)))∨(a=k∧b=.vs sz (es++xs))∨(a≠r2∧a≠k∧h[a]? = some b):=fun a b hb=>by
  by_cases n1:a=r2
  · subst n1;rw[List.getElem?_set_self (by simpa using hrl)]at hb
    cases hb;exact .inl ⟨rfl,rfl⟩
  · rw[List.getElem?_set_ne (Ne.symm n1)]at hb
    by_cases n2:a=k
    · subst n2;rw[List.getElem?_set_self hkl]at hb
      cases hb;exact .inr (.inl ⟨rfl,rfl⟩)
    · rw[List.getElem?_set_ne (Ne.symm n2)]at hb;exact .inr (.inr ⟨n1,n2,hb⟩)
 have hw:∀ a b,((h.set k (Blk.vs sz (es++xs))).set r2 (Blk.vs sz (es2.take off++xs.map (fun c=>c.map unO)++es2.drop (off+len))))[a]? = some b→writes b=true→∃ b0,h[a]? = some b0∧writes b0=true:=fun a b hb hwb=>by
  rcases rows a b hb with⟨rfl,rfl⟩|⟨rfl,rfl⟩|⟨_,_,h3⟩
  · exact⟨_,hr2,rfl⟩
  · exact⟨_,hk,rfl⟩
  · exact⟨_,h3,hwb⟩
 have hln:(es2.take off++xs.map (fun c=>c.map unO)++es2.drop (off+len)).length=es2.length:=by simp[hxl];omega
 obtain⟨φ,hφ⟩:=hS.own
 have origin : ∀ a i j x, oAt ((h.set k (Blk.vs sz (es ++ xs))).set r2 (Blk.vs sz (es2.take off ++ xs.map (fun c => c.map unO) ++ es2.drop (off + len)))) a i j x →
  (a=k∧es.length≤i∧i - es.length<len∧oAt h r2 (off+(i - es.length)) j x∧∃ cs,xs[i - es.length]? = some cs∧cs[j]? = some (.o x))∨(¬ (a=k∧es.length≤i)∧¬ (a=r2∧off≤i∧i<off+len)∧oAt h a i j x):=fun a i j x ho=>by
  obtain⟨s,e,cs,h1,h2,h3⟩:=ho;rcases rows a _ h1 with⟨rfl,e1⟩|⟨rfl,e1⟩|⟨n1,n2,h4⟩
  · cases e1;obtain⟨cs0,q1,q2⟩:=hsrc i cs h2;rcases q2 with⟨q2,rfl⟩|⟨q2,rfl⟩
    · exact .inr ⟨fun e=>hne e.1.symm,fun e=>q2 e.2,_,_,_,hr2,q1,h3⟩
    · rw[List.getElem?_map]at h3
      cases h0:cs0[j]? with
      | none=>rw[h0]at h3;cases h3
      | some v=>rw[h0]at h3;simp only[Option.map_some,Option.some.injEq]at h3;exact absurd h3 (Zm v x)
  · cases e1
    by_cases hil:i<es.length
    · rw[List.getElem?_append_left hil]at h2;refine .inr ⟨fun e=>by omega,fun e=>hne e.1,_,_,cs,hk,by rw[List.getElem?_append_left hil];exact h2,h3⟩
    · rw[List.getElem?_append_right (by omega)]at h2;have hlt:=(List.getElem?_eq_some_iff.1 h2).1;exact .inl ⟨rfl,by omega,by omega,⟨_,_,cs,hr2,by rw[← hxi _ (by omega)];exact h2,h3⟩,cs,h2,h3⟩
  · exact .inr ⟨fun e=>n2 e.1,fun e=>n1 e.1,s,e,cs,h4,h2,h3⟩
 refine⟨fun a b hb=>?_,fun r1 r3 b1 b3 L1 L3 h1 h3 w1 w3 l1 l3 e=>?_,hS.fsz,fun a ha=>hS.out a (by simpa using ha),⟨fun a i j b=>(∃ x,oAt ((h.set k (Blk.vs sz (es++xs))).set r2 (Blk.vs sz (es2.take off++xs.map (fun c=>c.map unO)++es2.drop (off+len)))) a i j x)∧(if a=k∧es.length≤i then φ r2 (off+(i - es.length)) j b else φ a i j b),⟨fun a i j x ho=>?_,fun a i j b hx=>?_,fun a i j a' i' j' b g1 g2=>?_,fun a i j b r' b' L' g1 g2 g3 g4 he=>?_⟩⟩⟩
 · rcases rows a b hb with⟨rfl,rfl⟩|⟨rfl,rfl⟩|⟨_,_,h3⟩
   · rcases hS.blk _ _ hr2 with⟨L,h1,h2,h3,h4,h5⟩|⟨h1,h2⟩
     · obtain⟨hn,hl,c,el,fr,hh,hs,hf,hz,hc⟩:=h3;refine .inl ⟨L,h1,h2,⟨by rw[hln];exact hn,fun e he=>?_,c,el,fr,hh,hs,hf,hz,fun i j cs v hi hj=>?_⟩,h4,h5⟩
       · obtain⟨i,hi⟩:=List.mem_iff_getElem?.1 he;obtain⟨cs0,q1,q2⟩:=hsrc i e hi;have:=hl cs0 (List.mem_of_getElem? q1);rcases q2 with⟨_,rfl⟩|⟨_,rfl⟩
         · exact this
         · simpa using this
       · obtain⟨cs0,q1,q2⟩:=hsrc i cs hi;rcases q2 with⟨_,rfl⟩|⟨_,rfl⟩
         · exact hc i j _ v q1 hj
         · rw[List.getElem?_map]at hj
           cases h0:cs0[j]? with
           | none=>rw[h0]at hj;cases hj
           | some v0 =>
            rw[h0]at hj;cases hj;obtain⟨u,p1,p2⟩:=hc i j _ v0 q1 h0;exact⟨u,p1,VZ p2⟩
     · subst h2;refine .inr ⟨h1,?_⟩;have:(List.length (List.take off []++xs.map (fun c=>c.map unO)++List.drop (off+len) []:List (List V)))=0:=hln;exact List.eq_nil_of_length_eq_zero this
   · rcases hS.blk _ _ hk with⟨L,h1,h2,h3,h4,h5⟩|⟨h1,h2⟩
     · obtain⟨hn,hl,c,el,fr,hh,hs,hf,hz,hc⟩:=h3;have hgx:∀ i (cs:List V),(es++xs)[i]? = some cs→∃ cs0:List V,(es++xs.map fun c=>c.map unO)[i]? = some cs0∧cs0.length=cs.length∧∀ (j:Nat) (v:V),cs[j]? = some v→∃ v0:V,cs0[j]? = some v0∧∀ u,RV w F ρ u v0→RV w F ρ u v:=fun i cs hi=>by
        by_cases hil:i<es.length
        · rw[List.getElem?_append_left hil]at hi;exact⟨cs,by rw[List.getElem?_append_left hil];exact hi,rfl,fun j v hj=>⟨v,hj,fun u h=>h⟩⟩
        · rw[List.getElem?_append_right (by omega)]at hi;refine⟨cs.map unO,by rw[List.getElem?_append_right (by omega),List.getElem?_map,hi];rfl,by simp,fun j v hj=>⟨unO v,by rw[List.getElem?_map,hj];rfl,fun u h=>?_⟩⟩
          cases v<;>first|exact h|exact .o u _
       refine .inl ⟨L,h1,h2,⟨by simpa using hn,fun e he=>?_,c,el,fr,hh,hs,hf,hz,fun i j cs v hi hj=>?_⟩,h4,h5⟩
       · obtain⟨i,hi⟩:=List.mem_iff_getElem?.1 he;obtain⟨cs0,q1,q2,_⟩:=hgx i e hi;rw[← q2];exact hl cs0 (List.mem_of_getElem? q1)
       · obtain⟨cs0,q1,_,q3⟩:=hgx i cs hi;obtain⟨v0,q4,q5⟩:=q3 j v hj;obtain⟨u,p1,p2⟩:=hc i j cs0 v0 q1 q4;exact⟨u,p1,q5 u p2⟩
     · refine .inr ⟨h1,?_⟩;simp at h2 ⊢;exact h2
   · exact hS.blk a b h3
 · obtain⟨b1',k1,k2⟩:=hw r1 b1 h1 w1;obtain⟨b3',k3,k4⟩:=hw r3 b3 h3 w3;exact hS.inj r1 r3 b1' b3' L1 L3 k1 k3 k2 k4 l1 l3 e
 · rcases origin a i j x ho with⟨rfl,h1,h2,h3,cs,h4,h5⟩|⟨h1,h2,h3⟩
   · obtain⟨L,u,k3,k4,k5⟩:=hφ.cell _ _ _ x h3;obtain⟨L',k6,k7⟩:=hval _ j cs x h4 h5 L u k3 k4;rw[show es.length+(i - es.length)=i by omega]at k7;exact⟨L',u,k6,k7,k5.mono fun b hb'=>⟨⟨⟨x,ho⟩,by rw[if_pos ⟨rfl,h1⟩];exact hb'⟩,rfl⟩⟩
   · obtain⟨L,u,k3,k4,k5⟩:=hφ.cell _ _ _ x h3;exact⟨L,u,k3,k4,k5.mono fun b hb'=>⟨⟨⟨x,ho⟩,by rw[if_neg h1];exact hb'⟩,rfl⟩⟩
 · obtain⟨⟨x,h0⟩,h1⟩:=hx;refine⟨⟨x,h0⟩,?_⟩
   split at h1
   · exact (hφ.act _ _ _ b h1).2
   · exact (hφ.act _ _ _ b h1).2
 · obtain⟨⟨x,hx⟩,p1⟩:=g1;obtain⟨⟨x',hx'⟩,p2⟩:=g2;rcases origin a i j x hx with⟨rfl,q1,q2,q3,_⟩|⟨q1,q2,q3⟩<;>rcases origin a' i' j' x' hx' with⟨rfl,s1,s2,s3,_⟩|⟨s1,s2,s3⟩
   · rw[if_pos ⟨rfl,q1⟩]at p1;rw[if_pos ⟨rfl,s1⟩]at p2;obtain⟨e1,e2,e3⟩:=hφ.sep _ _ _ _ _ _ b p1 p2;exact⟨rfl,by omega,e3⟩
   · rw[if_pos ⟨rfl,q1⟩]at p1;rw[if_neg s1]at p2;obtain⟨e1,e2,e3⟩:=hφ.sep _ _ _ _ _ _ b p1 p2;exact absurd ⟨e1.symm,by omega,by omega⟩ s2
   · rw[if_neg q1]at p1;rw[if_pos ⟨rfl,s1⟩]at p2;obtain⟨e1,e2,e3⟩:=hφ.sep _ _ _ _ _ _ b p1 p2;exact absurd ⟨e1,by omega,by omega⟩ q2
   · rw[if_neg q1]at p1;rw[if_neg s1]at p2;exact hφ.sep _ _ _ _ _ _ b p1 p2
 · obtain⟨b0,q1,q2⟩:=hw r' b' g2 g3;obtain⟨_,p1⟩:=g1
   split at p1
   · exact hφ.apart _ _ _ b r' b0 L' p1 q1 q2 g4 he
   · exact hφ.apart _ _ _ b r' b0 L' p1 q1 q2 g4 he
theorem VI (hS:St w F ρ Ow h)(hO:OkZ Ow w h){ty tx:TypeId}{s x v:V}{h':Heap}(hc:yg P ty tx s x h=some (v,h')){us ux:Value}(hs:RV w F ρ us s)(hx:RV w F ρ ux x)(rt:TypeId) :
 xx P w F ρ Ow (Builtin.append_ #[ty,tx] rt #[us,ux]) v h':=by
 unfold yg at hc
 split at hc
 rotate_left
 · cases hc
 rename_i el e2 hel hel2;obtain⟨hty,inf0,hinf0⟩:=xW hel;obtain⟨htx,_,_⟩:=xW hel2
 split at hc
 rotate_left
 · cases hc
 rename_i r off len cap r2 off2 len2 cap2
 split at hc
 rotate_left
 · cases hc
 rename_i sz es sz2 es2 hb hb2
 split at hc
 rotate_left
 · cases hc
 rename_i hcond;obtain⟨c1,c2,c3,c4,c5,c6,c7,c9,c10,c11,c12⟩:=hcond
 cases hc;subst c1 c5 c6 c2;obtain⟨zs,hzz⟩:=Option.isSome_iff_exists.1 c12;obtain⟨inf,zv,i1,i2,i3,i4,i5⟩:=wT (w:=w) (F:=F) (ρ:=ρ) hzz;have hszi:inf.size=zC P el:=by simp[zC,Program.cellsOf,i1]
 have hby:P.bytesOf el=inf.bytes:=by simp[Program.bytesOf,i1]
 obtain⟨news,k1,k2,k3,k9⟩:=Q3 hS htx hb2 c9 c7 rfl c3 hx;have hxl:((es2.drop off2).take len2).length=len2:=by simp;omega
 have hrl2:=(List.getElem?_eq_some_iff.1 hb2).1;generalize hxs:(es2.drop off2).take len2=xs at *;have hyl:(xs.map fun c=>c.map unO).length=len2:=by simpa using hxl
 have hk3:∀ e∈xs.map (fun c=>c.map unO),e.length=zC P el:=fun e he=>by
  obtain⟨c,hc,rfl⟩:=List.mem_map.1 he;simpa using k3 c hc
 /- what lies in the new row, and in what is moved, is one -/
 have fin : ∀ (w' : World) (ρ' : y9), St w' F ρ' Ow (h.set r .dead ++ [.vs (zC P el) (es ++ xs.map fun c => c.map unO)]) → Nxt Ow w F ρ w' F ρ' → (∀ L, ρ r2 = some (some L) → w'.heap[L.b]? = w.heap[L.b]?) →
  Tf w' ρ' h.length (zC P el) (es.length*zC P el) news →
  St w' F ρ' Ow ((h.set r .dead++[Blk.vs (zC P el) (es++xs)]).set r2 (Blk.vs (zC P el) (es2.take off2++xs.map (fun c=>c.map unO)++es2.drop (off2+len2)))):=fun w' ρ' g1 g2 g3 g4=>by
  have hk:(h.set r .dead++[Blk.vs (zC P el) (es++xs.map fun c=>c.map unO)])[h.length]? = some (.vs (zC P el) (es++xs.map fun c=>c.map unO)):=by
   rw[List.getElem?_append_right (by simp)];simp
  have hr2:(h.set r .dead++[Blk.vs (zC P el) (es++xs.map fun c=>c.map unO)])[r2]? = some (.vs (zC P el) es2):=by
   rw[List.getElem?_append_left (by simpa using hrl2),List.getElem?_set_ne c4];exact hb2
  rw[← hxs]at hk g1;have:=mv_st g1 hk (by rw[hxs];exact hr2) (by omega) c7 (fun i j cs x hi hj L2 u hL2 hu=>?_)
  · rw[hxs]at this;rw[show (h.set r .dead++[Blk.vs (zC P el) (es++xs.map fun c=>c.map unO)]).set h.length (.vs (zC P el) (es++xs))=h.set r .dead++[.vs (zC P el) (es++xs)] by
     rw[List.set_append_right _ _ (by simp)];simp]at this
    exact this
  · rw[hxs]at hi;have hil:i<len2:=by have:=(List.getElem?_eq_some_iff.1 hi).1;omega
    have hjl:j<zC P el:=by
     have h1:=(List.getElem?_eq_some_iff.1 hj).1;rw[k3 cs (List.mem_of_getElem? hi)]at h1;exact h1
    obtain⟨L0,hL0⟩:∃ L0,ρ r2=some (some L0):=by
     rcases hS.blk r2 _ hb2 with⟨L,h1,_⟩|⟨_,h2⟩
     · exact⟨L,h1⟩
     · subst h2;simp at c7;omega
    have e:=g2.ext _ _ hL0;obtain rfl:L2=L0:=by rw[e]at hL2;cases hL2;rfl
    have hu':cellAt w L2 (off2+i) j u:=v7 (g3 L2 hL0).symm hu;have hn:=k9 L2 i j u hL0 hu' hil hjl;rcases g4 with g4|⟨L',q1,q2,q3⟩
    · subst g4;simp at hn
    · obtain⟨c,el',fr,p1,p2⟩:=q3 _ u hn;refine⟨L',q1,c,el',fr,p1,?_⟩;rw[q2,Nat.add_mul,show es.length*zC P el+i*zC P el+j=es.length*zC P el+(i*zC P el+j) by omega];exact p2
 have hlenO:∀ L,xw w L es (RV w F ρ)→L.sz=zC P el→∀ e∈es++xs.map (fun c=>c.map unO),e.length=inf.size:=fun L h3 hL e he=>by
  rw[hszi];rcases List.mem_append.1 he with h1|h1
  · exact (h3.len e h1).trans hL
  · exact hk3 e h1
 rw[← hyl]at k1 c10 c11 ⊢;generalize hys:xs.map (fun c=>c.map unO)=ys at *;have hok:∀ c∈ys,∀ x,V.o x∉c:=by rw[← hys];exact TY xs
 have hfar2:∀ L,ρ r2=some (some L)→L.b<w.heap.size:=fun L hL=>by
  rcases hS.blk r2 _ hb2 with⟨L',h1,_,⟨_,_,c,el',fr,hh,_⟩,_⟩|⟨h1,_⟩
  · rw[hL]at h1;cases h1;exact (Array.getElem?_eq_some_iff.1 hh).1
  · rw[hL]at h1;cases h1
 generalize hle:es.length=len at hs;have grows:∀ (a:Option Addr) (c:Nat) (olds:List Value),us=.slice a es.length c→c<es.length+ys.length→(Builtin.firstCells inf.size es.length (.slice a es.length c)).run P w.drew=.ok olds.toArray w.drew→RVs w F ρ olds es.flatten →
  (∀ e∈es++ys,e.length=inf.size)→(∀ k j L u,ρ r=some (some L)→cellAt w L k j u→k<es.length→j<inf.size→olds[k*inf.size+j]? = some u) →
  xx P w F ρ Ow (Builtin.append_ #[ty,tx] rt #[us,ux]) (.sl h.length 0 (es.length+ys.length) none) ((h.set r .dead++[Blk.vs (zC P el) (es++xs)]).set r2 (Blk.vs (zC P el) (es2.take off2++ys++es2.drop (off2+ys.length)))):=by
  intro a c olds hus hlt hfirst holds hlens hcell;subst hus;obtain⟨ρ',g1,g2,g3,g4⟩:=cP (el:=el) hS hO (z:=zv) i3 (by rw[hszi];exact hb) hok hlens hlt holds k2 (by omega) hcell;refine⟨_,F,ρ',_,run_append_grow_src w ty tx rt el inf zv hty i1 i2 a es.length c olds hfirst ux ys.length news (by rw[hszi];exact k1) hlt (by unfold ya at c11;omega) (lr hlt (by rw[← hby];exact c10)),g3,?_,g2⟩;rw[hszi]at g1 g4;have q:=fin _ _ g1 g2 (fun L hL=>by
   have hlt:=hfar2 L hL;have e:w.drew.heap=w.heap:=rfl;simp[xJ,e,Array.getElem?_push,Nat.ne_of_lt hlt]) g4
  rw[← hyl]at q;exact q
 have empty:es.length+ys.length=0→∀ a:Option Addr,us=.slice a 0 0→xx P w F ρ Ow (Builtin.append_ #[ty,tx] rt #[us,ux]) (.sl h.length 0 (es.length+ys.length) none) ((h.set r .dead++[Blk.vs (zC P el) (es++xs)]).set r2 (Blk.vs (zC P el) (es2.take off2++ys++es2.drop (off2+ys.length)))):=by
  intro h0 a hus;subst hus;have hx0:ys=[]:=List.eq_nil_of_length_eq_zero (by omega);have hes:es=[]:=List.eq_nil_of_length_eq_zero (by omega);obtain⟨ρ',g1,g2,g3⟩:=jg hS hO r (zC P el);have hlen:=k1.len w;have hcl:=k1.cells;have hn0:news=[]:=List.eq_nil_of_length_eq_zero (by have:=k1.newsLen;rw[hx0]at this;simpa using this);refine⟨w,F,ρ',.slice a 0 0,?_,by rw[hx0,hes];exact RV.slP h.length none a g3 (.inl rfl),?_,g2⟩
  · subst hn0;rw[hx0]at hlen hcl k1;simp only[List.length_nil]at hlen hcl;rcases k1.kind with⟨e',hk⟩|hk<;>cases a <;>
     simp[Builtin.append_,zF hty,zF hk,run_sizeOf i1,hlen,hcl,storeCells]
  · have q:=fin w ρ' (by rw[hx0,hes];exact g1) g2 (fun _ _=>rfl) (.inl hn0);rw[← hyl]at q;exact q
 rcases hS.blk r _ hb with⟨L,h1,h2,h3,h4,h5⟩|⟨h1,h2⟩
 · cases hs with
   | slP r cap a hρ=>rw[h1]at hρ;cases hρ
   | sl r off len cap L' a c hρ ha hl hn hc0 hc1 hzz =>
    rw[h1]at hρ;cases hρ;subst hle;simp only[Nat.zero_mul,Nat.add_zero,Nat.zero_add]at ha hzz
    by_cases hroom:es.length+ys.length≤c
    · by_cases hce:c=0
      · subst hce;have h0:es.length=0:=by omega
        exact empty (by omega) a (by rw[h0])
      · obtain rfl:=ha.resolve_right hce;obtain⟨ρ',g1,g2,g3,g4,g5⟩:=iw hS hO hb h1 h2 h3 h4 h5 hok k2 hk3 hroom (hzz hce);refine⟨_,F,ρ',_,?_,g3,?_,g2⟩
        · have:=run_append_room_src (P:=P) w ty tx rt el inf hty i1 L.b L.o es.length c ux ys.length news (by rw[hszi];exact k1) hroom
           (fun j hj=>by rw[hszi,← h2];exact (g4 j hj).1) (fun j hj=>by rw[hszi,← h2];exact (g4 j hj).2)
          rw[hszi,← h2]at this;exact this
        · have q:=fin _ _ g1 g2 (fun L2 hL2=>x5 _ _ _ _ _ fun e=>c4 (hS.inj r r2 _ _ L L2 hb hb2 rfl rfl h1 hL2 e.symm)) g5;rw[← hyl]at q;exact q
    · obtain⟨vals,v1,v2,v3,v4⟩:=pZ h3 (by omega);have hlens:=hlenO L h3 h2
      by_cases hl0:es.length=0
      · have hes:es=[]:=List.eq_nil_of_length_eq_zero hl0;refine grows a c [] rfl (by omega) ?_ (by rw[hes];exact .nil) hlens (fun k j L u _ _ hk _=>by omega);rw[hl0]
        cases a<;>simp[Builtin.firstCells,loadCells,loadCellsFrom]
      · obtain rfl:=ha.resolve_right (by omega);refine grows _ c vals rfl (by omega) ?_ v2 hlens (fun k j L' u hL' hu hk hj=>?_)
        · refine run_firstCells_some w.drew inf.size es.length _ es.length c _ (by rw[v1,h2,hszi]) fun j u hj=>?_
          rw[Addr.add_mid];exact v3 j u hj
        · rw[h1]at hL';cases hL';rw[hszi,← h2]at hj ⊢;exact v4 k j u hu hk hj
 · cases hs with
   | sl r off len cap L a c hρ=>rw[h1]at hρ;cases hρ
   | slP r cap a hρ hcp =>
    rw[show 0+ys.length=es.length+ys.length by omega]
    by_cases hn:ys.length=0
    · exact empty (by omega) a rfl
    · refine grows a 0 [] (by rw[hle]) (by omega) ?_ (by rw[h2];exact .nil) (fun e he=>by rw[h2]at he;rw[hszi];exact hk3 e (by simpa using he)) (fun k j L u hL=>by rw[h1]at hL;cases hL);rw[hle]
      cases a<;>simp[Builtin.firstCells,loadCells,loadCellsFrom]
theorem SX (hS:St w F ρ Ow h)(hO:OkZ Ow w h){ty tx:TypeId}{s x v:V}{h':Heap}(hc:yn P ty tx s x h=some (v,h')){us ux:Value}(hs:RV w F ρ us s)(hx:RV w F ρ ux x)(rt:TypeId) :
 xx P w F ρ Ow (Builtin.append_ #[ty,tx] rt #[us,ux]) v h':=by
 have both:∀ {F:Nat→Prop} {ρ:y9} {h:Heap} {s:V},St w F ρ Ow h→OkZ Ow w h→RV w F ρ us s→RV w F ρ ux x→(match yf P ty tx s x h with|some q=>some q|none=>yg P ty tx s x h)=some (v,h')→xx P w F ρ Ow (Builtin.append_ #[ty,tx] rt #[us,ux]) v h':=fun hS hO hs hx hc=>by
  split at hc
  · rename_i q hq;cases hc;exact VH hS hO hq hs hx rt
  · exact VI hS hO hc hs hx rt
 unfold yn at hc
 split at hc
 · rename_i sz;obtain⟨ρ1,g1,g2,g3⟩:=jg hS hO h.length sz;rw[List.set_eq_of_length_le (Nat.le_refl _)]at g1;have hs1:RV w F ρ1 us (.sl h.length 0 0 none):=by
    cases hs;exact .slP h.length none none g3 (.inl rfl)
   obtain⟨w2,F2,ρ2,u,e1,e2,e3,e4⟩:=both g1 ⟨hO.blk,fun r hr=>by have:=hO.z r hr;simp;omega⟩ hs1 (g2.rv hx) hc;exact⟨w2,F2,ρ2,u,e1,e2,e3,g2.trans e4⟩
 · exact both hS hO hs hx hc
end Go.Proofs.YtefkoljdebekdaaGreatDoor.E
/- Making owned values; calls that read them as they are. Conditions: those of each lemma. -/
namespace Go.Proofs.YtefkoljdebekdaaGreatDoor.E
variable {P:Program} {w:World} {F:Nat→Prop} {ρ:y9} {Ow:Own} {h:Heap}
theorem gf:∀ {qs:List (Nat×V)} {sz n:Nat} {css:List (List V)},vk sz n qs=some css→∀ c∈css,c.all y5=true
 | [],sz,n,css,hf=>by simp only[vk]at hf;cases hf;simp
 | (i,v)::qs,sz,n,css,hf=>by
  simp only[vk]at hf
  split at hf
  · rename_i hc
    split at hf
    · rename_i r hr
      cases hf;intro c hcm;rcases List.mem_cons.1 hcm with rfl|hcm
      · exact hc.2.2
      · exact gf hr c hcm
    · cases hf
  · cases hf
theorem lE (hS:St w F ρ Ow h) (hO:OkO Ow w ρ h) {t el:TypeId} (hel:yo P t=some el) {ps:Array (Nat×Value)} {qs:List (Nat×V)}
 (hp:vg (fun (x:Nat×Value) (y:Nat×V)=>x.1=y.1∧RV w F ρ x.2 y.2) ps.toList qs) (hs0:zC P el≠0) (hs1:¬ qs.length*zC P el > 16777216) {css:List (List V)} (hf:vk (zC P el) 0 qs=some css) {zs:List V} (hz:zeroOf P el=some zs) :
 xx P w F ρ Ow (Instr.buildSlice t qs.length ps) (.sl (nI Ow.N h) 0 qs.length (some qs.length)) (nH Ow.N h (.vs (zC P el) css)):=by
 obtain⟨hty,_,_⟩:=xW hel;obtain⟨inf,z,i1,i2,i3,i4,i5⟩:=wT (w:=w) (F:=F) (ρ:=ρ) hz;have hszi:inf.size=zC P el:=by simp[zC,Program.cellsOf,i1]
 have harr:((Array.range (qs.length*zC P el)).map (z.cells[· % z.cells.size]!)).size=qs.length*zC P el:=by simp
 obtain⟨arr',us,e1,e2,e3,e4,e5,e6,e7,e8⟩:=ji (arr:=(Array.range (qs.length*zC P el)).map (z.cells[· % z.cells.size]!)) hp hf (by rw[harr];simp);have harr':arr'.toList=us:=by
  apply List.ext_getElem?;intro m;rw[Array.getElem?_toList,e7];simp only[Nat.zero_mul,Nat.zero_le,true_and,Nat.zero_add,Nat.sub_zero]
  split
  · rfl
  · rename_i hm;rw[Array.getElem?_eq_none (by rw[harr];omega),List.getElem?_eq_none (by omega)]
 have hsz':arr'.size=qs.length*zC P el:=by rw[e2,harr]
 obtain⟨ρ',n1,n2,n3⟩:=jy hS hO arr' el (zC P el) css.length (.vs (zC P el) css) (fun ρ' hρ hL hF hOw hA=>.inl ⟨_,hL,rfl,rL (fun e he=>e5 e he) (by rw[hsz',e6];exact Nat.le_refl _)
  (by rw[List.take_of_length_le (by rw[harr',e6,e4];exact Nat.le_refl _),harr'];exact xS e3 fun _ _ x=>x.mono hA (fun _ y=>y) hρ),hF,hOw⟩) (aS (gf hf))
 refine⟨_,F,ρ',.slice (some ⟨w.heap.size,0,none⟩) qs.length qs.length,?_,?_,n1,n2⟩
 · by_cases hl:qs.length=0
   · have hq:qs=[]:=List.eq_nil_of_length_eq_zero hl;subst hq
     cases hp':ps.toList with
     | cons x l=>rw[hp']at hp;cases hp
     | nil =>
      have ha:arr' = #[]:=by
       apply Array.ext';rw[harr'];exact List.eq_nil_of_length_eq_zero (by simpa using e4)
      simp only[List.length_nil,Nat.zero_mul]at e1;rw[hp']at e1;simp only[Instr.fill,Option.some.injEq]at e1;have hr0:∀ f:Nat→Value,Array.map f (Array.range 0) = #[]:=fun f=>by apply Array.ext';simp
      simp[Instr.buildSlice,zF hty,run_sizeOf i1,hp',Instr.fill,newRow,ha,hr0]
   · have hne:¬ qs.length*inf.size=0:=by
      rw[hszi];exact Nat.mul_ne_zero hl hs0
     exact run_buildSlice w t el qs.length ps arr' inf z hty i1 i2 (by rw[hszi];simpa using hs1) hne (by rw[hszi];exact e1)
 · refine .sl _ 0 _ _ _ _ _ n3 (.inl (by simp)) (Nat.le_refl _) (by simp[e6]) (fun hcap=>by cases hcap) (fun k hk=>by cases hk;rfl) (fun _=>?_);simp only[Nat.zero_add];rw[hsz'];exact Nat.le_refl _
theorem WR (hS:St w F ρ Ow h) (hO:OkC Ow w) {t el:TypeId} (hel:yo P t=some el) {zs:List V} (hz:zeroOf P el=some zs) {n:Nat} {k k':IntKind} (hs0:zC P el≠0)
 (hb:n*P.bytesOf el≤ya) (hm:n≤ya) :
 xx P w F ρ Ow (Instr.makeSlice t (.int k n) (.int k' n)) (.sl h.length 0 n (some n)) (h++[.vs (zC P el) (List.replicate n zs)]):=by
 obtain⟨hty,_,_⟩:=xW hel;obtain⟨inf,zv,i1,i2,i3,i4,i5⟩:=wT (w:=w) (F:=F) (ρ:=ρ) hz;have hszi:inf.size=zC P el:=by simp[zC,Program.cellsOf,i1]
 have hby:P.bytesOf el=inf.bytes:=by simp[Program.bytesOf,i1]
 unfold ya at hb hm
 have hrun := run_make (P := P) w t el inf zv hty i1 i2 k k' n n (by omega) (Int.le_refl _) (by rw [hby] at hb; have : (inf.bytes : Int) * (n : Int) = ((n * inf.bytes : Nat) : Int) := by rw [Nat.mul_comm]; simp
                                                                                                omega) (by omega)
 have hzl:zs.length=zC P el:=by rw[← zP i4];simp[i3,hszi]
 have hrep:∀ e∈List.replicate n zs,e.length=zC P el:=fun e he=>by rw[List.eq_of_mem_replicate he];exact hzl
 have hcells:RVs w F ρ (madeCells zv.cells (n*inf.size)).toList (List.replicate n zs).flatten:=by
  refine x6 (by simp[w9 hrep,size_madeCells,hszi]) fun m u v hu hv=>?_
  have hml:m<n*inf.size:=by
   have:=(List.getElem?_eq_some_iff.1 hu).1;simpa [size_madeCells] using this
  have hpos:0<zC P el:=by omega
  rw[hszi]at hml;have d1:m / zC P el<n:=(Nat.div_lt_iff_lt_mul hpos).2 hml;have d2:m % zC P el<zC P el:=Nat.mod_lt _ hpos;have d3:=Nat.div_add_mod m (zC P el);have hv':=flat_get hrep (i:=m / zC P el) (j:=m % zC P el) (cs:=zs) (x:=zs[m % zC P el]'(by omega)) (by simp[d1]) (List.getElem?_eq_getElem (by omega));rw[show m / zC P el*zC P el+m % zC P el=m by rw[Nat.mul_comm];omega]at hv';rw[hv]at hv';cases hv';obtain⟨u',e1,e2⟩:=yh i4 (m % zC P el) _ (List.getElem?_eq_getElem (by omega));have hzs:zv.cells.size=zC P el:=by rw[i3,hszi]
  have hu':u=u':=by
   simp only[madeCells,Array.toList_map,List.getElem?_map,Array.toList_range]at hu;rw[hszi]at hu;simp[hml]at hu;rw[← hu,hzs];have:zv.cells[m % zC P el]? = some u':=by simpa using e1
   simp[getElem!_def,this]
  rw[hu'];exact e2
 have hno:noO (.vs (zC P el) (List.replicate n zs)):=aS fun c hc=>by rw[List.eq_of_mem_replicate hc];exact pT hz
 obtain⟨ρ',n1,n2,n3⟩:=jy hS hO.op (madeCells zv.cells (n*inf.size)) el (zC P el) (List.replicate n zs).length (.vs (zC P el) (List.replicate n zs)) (fun ρ' hρ hL hF hOw hA=>.inl ⟨_,hL,rfl,rL hrep (by simp[size_madeCells,hszi])
  (by rw[List.take_of_length_le (by simp[size_madeCells,hszi])];exact xS hcells fun _ _ x=>x.mono hA (fun _ y=>y) hρ),hF,hOw⟩) hno
 rw[hO.n]at n1 n3;simp only[nI,nH]at n1 n3;refine⟨_,F,ρ',.slice (some ⟨w.heap.size,0,none⟩) n n,?_,?_,n1,n2⟩
 · simpa using hrun
 · refine .sl _ 0 _ _ _ _ _ n3 (.inl (by simp)) (Nat.le_refl _) (by simp) (fun hcap=>by cases hcap) (fun k hk=>by cases hk;rfl) (fun _=>?_);simp[size_madeCells,hszi]
end Go.Proofs.YtefkoljdebekdaaGreatDoor.E
/- Owned values laid apart, and back; calls whose answer owns its memory. Conditions: those of each lemma. -/
namespace Go.Proofs.YtefkoljdebekdaaGreatDoor.E
variable {P:Program} {w:World} {F:Nat→Prop} {ρ:y9} {Ow:Own} {h:Heap}
theorem pX {es:List (List V)}{i j:Nat}{cs:List V}{v:V}(hi:es[i]? = some cs)(hj:j<cs.length){a b:Nat}{cs':List V}{x:V}(h1:(zY es i j cs v)[a]? = some cs')(h2:cs'[b]? = some x) :
 (a=i∧b=j∧x=v)∨(¬ (a=i∧b=j)∧∃ cs0,es[a]? = some cs0∧cs0[b]? = some x):=by
 unfold zY at h1;have hil:=(List.getElem?_eq_some_iff.1 hi).1;rw[List.getElem?_set]at h1
 split at h1
 · rename_i e;subst e;simp[hil]at h1;subst h1;rw[List.getElem?_set]at h2
   split at h2
   · rename_i e2;subst e2;simp[hj]at h2;exact .inl ⟨rfl,rfl,h2.symm⟩
   · rename_i hne;exact .inr ⟨fun e=>hne e.2.symm,cs,hi,h2⟩
 · rename_i hne;exact .inr ⟨fun e=>hne e.1.symm,cs',h1,h2⟩
theorem V3 {es:List (List V)}{i j:Nat}{cs:List V}{v:V}(hi:es[i]? = some cs){a b:Nat}{cs0:List V}{x:V}(hne:¬ (a=i∧b=j))(h1:es[a]? = some cs0)(h2:cs0[b]? = some x) :
 ∃ cs',(zY es i j cs v)[a]? = some cs'∧cs'[b]? = some x:=by
 unfold zY;have hil:=(List.getElem?_eq_some_iff.1 hi).1
 by_cases ha:a=i
 · subst ha;rw[hi]at h1;cases h1;exact⟨cs.set j v,by simp[hil],by rw[List.getElem?_set_ne fun e=>hne ⟨rfl,e.symm⟩];exact h2⟩
 · exact⟨cs0,by rw[List.getElem?_set_ne (Ne.symm ha)];exact h1,h2⟩
theorem TA {es:List (List V)}{i j:Nat}{cs:List V}{v:V}(hi:es[i]? = some cs)(hj:j<cs.length):∃ cs',(zY es i j cs v)[i]? = some cs'∧cs'[j]? = some v:=by
 have hil:=(List.getElem?_eq_some_iff.1 hi).1;exact⟨cs.set j v,by simp[zY,hil],by simp[hj]⟩
theorem o0 {L:Loc} {es:List (List V)} {R R':Value→V→Prop} (hr:xw w L es R) (hR:∀ u x,R u x→R' u x) {i j:Nat} {cs:List V} {v v0:V} (hi:es[i]? = some cs) (hj:cs[j]? = some v0)
 (hv:∀ u,cellAt w L i j u→R' u v):xw w L (zY es i j cs v) R':=by
 obtain⟨hn,hl,c,el,fr,hh,hs,hf,hz,hc⟩:=hr;have hjl:=(List.getElem?_eq_some_iff.1 hj).1;refine⟨by simpa [zY] using hn,fun e he=>?_,c,el,fr,hh,hs,hf,hz,fun a b cs' x h1 h2=>?_⟩
 · rcases List.mem_or_eq_of_mem_set he with he|rfl
   · exact hl e he
   · rw[List.length_set];exact hl cs (List.mem_of_getElem? hi)
 · rcases pX hi hjl h1 h2 with⟨rfl,rfl,rfl⟩|⟨_,cs0,h3,h4⟩
   · obtain⟨u,hu,_⟩:=hc a b cs v0 hi hj;exact⟨u,hu,hv u ⟨c,el,fr,hh,hu⟩⟩
   · obtain⟨u,hu,hru⟩:=hc a b cs0 x h3 h4;exact⟨u,hu,hR u x hru⟩
theorem cr {r i j sz:Nat}{es:List (List V)}{cs:List V}{v v0:V}(hb:h[r]? = some (.vs sz es))(hi:es[i]? = some cs)(hj:cs[j]? = some v0){a b:Nat}{x:T}(ho:oAt (h.set r (.vs sz (zY es i j cs v))) r a b x) :
 (a=i∧b=j∧v=.o x)∨(¬ (a=i∧b=j)∧oAt h r a b x):=by
 have hrl:=(List.getElem?_eq_some_iff.1 hb).1;obtain⟨s,e,c,h1,h2,h3⟩:=ho;simp[hrl]at h1;obtain⟨rfl,rfl⟩:=h1;rcases pX hi (List.getElem?_eq_some_iff.1 hj).1 h2 h3 with⟨h4,h5,h6⟩|⟨h4,cs0,h5,h6⟩
 · exact .inl ⟨h4,h5,h6.symm⟩
 · exact .inr ⟨h4,_,es,cs0,hb,h5,h6⟩
theorem dH {r i j sz:Nat}{es:List (List V)}{cs:List V}{v:V}(hb:h[r]? = some (.vs sz es))(hi:es[i]? = some cs){k a b:Nat}{x:T}(hne:¬ (k=r∧a=i∧b=j))(ho:oAt h k a b x):oAt (h.set r (.vs sz (zY es i j cs v))) k a b x:=by
 have hrl:=(List.getElem?_eq_some_iff.1 hb).1;obtain⟨s,e,c,h1,h2,h3⟩:=ho
 by_cases hk:k=r
 · subst hk;rw[hb]at h1;cases h1;obtain⟨cs',h4,h5⟩:=V3 (v:=v) hi (fun e=>hne ⟨rfl,e⟩) h2 h3;exact⟨sz,zY es i j cs v,cs',by simp[hrl],h4,h5⟩
 · exact⟨s,e,c,by rw[List.getElem?_set_ne (Ne.symm hk)];exact h1,h2,h3⟩
theorem dB (hS:St w F ρ Ow h) (hz:∀ r,¬ Ow.z r) {φ:Nat→Nat→Nat→Nat→Prop} (hφ:sk w F ρ Ow h φ) {r i j sz:Nat} {es:List (List V)} {cs:List V} {x0:T} (hb:h[r]? = some (.vs sz es)) (hi:es[i]? = some cs) (hj:cs[j]? = some (.o x0))
 {L:Loc} (hL:ρ r=some (some L)) {l:Option Loc} {blk:Blk} {n:Nat} (hRV:∀ u,cellAt w L i j u→RV w F (newAt h ρ l) u (.sl h.length 0 n none)) (hRB:RB w F (newAt h ρ l) Ow h.length blk)
 {ψ:Nat→Nat→Nat→Prop} (hψ:∀ s e a b cs' x,blk=.vs s e→e[a]? = some cs'→cs'[b]? = some (.o x)→∃ L' u,l=some L'∧cellAt w L' a b u∧RO w u x (ψ a b))
 (hact:∀ a b k,ψ a b k→(∃ s e cs' x,blk=.vs s e∧e[a]? = some cs'∧cs'[b]? = some (.o x))∧φ r i j k) (hsep:∀ a b a' b' k,ψ a b k→ψ a' b' k→a=a'∧b=b')
 (hne:∀ a b k L',ψ a b k→l=some L'→k≠L'.b) (hl:∀ L',l=some L'→φ r i j L'.b) :
 ∃ ρ',St w F ρ' Ow (h.set r (.vs sz (zY es i j cs (.sl h.length 0 n none)))++[blk])∧Nxt Ow w F ρ w F ρ':=by
 have hrl:=(List.getElem?_eq_some_iff.1 hb).1;have hjl:=(List.getElem?_eq_some_iff.1 hj).1;have hx:=rR hS l;have hN:Nxt Ow w F ρ w F (newAt h ρ l):=⟨rfl,rfl,rfl,Nat.le_refl _,fun _ _ _=>rfl,fun _ _=>rfl,fun _ x=>x,fun _ x=>.inl x,hx,fun r hr=>absurd hr (hz r)⟩;have lowρ:∀ k,k<h.length→newAt h ρ l k=ρ k:=fun k hk=>by unfold newAt;rw[if_neg (by omega)]
 have get:∀ k b,(h.set r (.vs sz (zY es i j cs (.sl h.length 0 n none)))++[blk])[k]? = some b→(k=h.length∧b=blk)∨(k<h.length∧k=r∧b=.vs sz (zY es i j cs (.sl h.length 0 n none)))∨(k<h.length∧k≠r∧h[k]? = some b):=fun k b hk=>by
  rcases wR hk with⟨h1,h2⟩|⟨h1,h2⟩
  · exact .inl ⟨by simpa using h1,h2⟩
  · replace h1:k<h.length:=by simpa using h1
    by_cases hkr:k=r
    · subst hkr;simp[hrl]at h2;exact .inr (.inl ⟨h1,rfl,h2.symm⟩)
    · rw[List.getElem?_set_ne (Ne.symm hkr)]at h2;exact .inr (.inr ⟨h1,hkr,h2⟩)
 -- where a writable row of the new state lies
 have place:∀ k b L1,(h.set r (.vs sz (zY es i j cs (.sl h.length 0 n none)))++[blk])[k]? = some b→writes b=true→newAt h ρ l k=some (some L1)→(k=h.length∧l=some L1)∨(k<h.length∧∃ b0,h[k]? = some b0∧writes b0=true∧ρ k=some (some L1)):=fun k b L1 hk hw hL1=>by
  rcases get k b hk with⟨rfl,rfl⟩|⟨h1,rfl,rfl⟩|⟨h1,h2,h3⟩
  · simp[newAt]at hL1;exact .inl ⟨rfl,hL1⟩
  · exact .inr ⟨h1,_,hb,rfl,by rw[← lowρ k h1];exact hL1⟩
  · exact .inr ⟨h1,b,h3,hw,by rw[← lowρ k h1];exact hL1⟩
 refine⟨newAt h ρ l,⟨fun k b hk=>?_,fun k k' b b' L1 L2 hk hk' hw hw' h1 h2 he=>?_,hS.fsz,rQ hS l (by simp),?_⟩,hN⟩
 · rcases get k b hk with⟨rfl,rfl⟩|⟨h1,rfl,rfl⟩|⟨h1,h2,h3⟩
   · exact hRB
   · rcases hS.blk k _ hb with⟨L',q1,q2,q3,q4,q5⟩|⟨q1,_⟩
     · rw[hL]at q1;cases q1;exact .inl ⟨L,hx _ _ hL,q2,o0 q3 (fun u x hr=>hN.rv hr) hi hj hRV,q4,q5⟩
     · rw[hL]at q1;cases q1
   · exact (hS.blk k b h3).mono hN.agree hN.grow hx fun L' hL' hw=>⟨rfl,((hS.blk k b h3).vX hw hL').1⟩
 · rcases place k b L1 hk hw h1 with⟨rfl,p1⟩|⟨p0,b0,p1,p2,p3⟩<;>rcases place k' b' L2 hk' hw' h2 with⟨rfl,q1⟩|⟨q0,b1,q1,q2,q3⟩
   · rfl
   · exact absurd he.symm (hφ.apart r i j L1.b k' b1 L2 (hl L1 p1) q1 q2 q3)
   · exact absurd he (hφ.apart r i j L2.b k b0 L1 (hl L2 q1) p1 p2 p3)
   · exact hS.inj k k' b0 b1 L1 L2 p1 q1 p2 q2 p3 q3 he
 · refine⟨fun k a b m=>(k=h.length∧ψ a b m)∨(k<h.length∧¬ (k=r∧a=i∧b=j)∧φ k a b m),⟨fun k a b x ho=>?_,fun k a b m hm=>?_,fun k a b k' a' b' m h1 h2=>?_,fun k a b m k' b' L' h1 h2 h3 h4 he=>?_⟩⟩
   · obtain⟨s,e,c,h1,h2,h3⟩:=ho;rcases get k _ h1 with⟨rfl,rfl⟩|⟨h4,rfl,h5⟩|⟨h4,h5,h6⟩
     · obtain⟨L',u,q1,q2,q3⟩:=hψ s e a b c x rfl h2 h3;exact⟨L',u,by simp[newAt,q1],q2,q3.mono fun m hm=>⟨.inl ⟨rfl,hm⟩,rfl⟩⟩
     · cases h5;rcases pX hi hjl h2 h3 with⟨_,_,h6⟩|⟨h6,cs0,h7,h8⟩
       · cases h6
       · obtain⟨L',u,q1,q2,q3⟩:=hφ.cell k a b x ⟨_,es,cs0,hb,h7,h8⟩;exact⟨L',u,hx _ _ q1,q2,q3.mono fun m hm=>⟨.inr ⟨h4,fun e=>h6 e.2,hm⟩,rfl⟩⟩
     · obtain⟨L',u,q1,q2,q3⟩:=hφ.cell k a b x ⟨s,e,c,h6,h2,h3⟩;exact⟨L',u,hx _ _ q1,q2,q3.mono fun m hm=>⟨.inr ⟨h4,fun e=>h5 e.1,hm⟩,rfl⟩⟩
   · rcases hm with⟨rfl,hm⟩|⟨h1,h2,hm⟩
     · obtain⟨⟨s,e,c,x,q1,q2,q3⟩,q4⟩:=hact a b m hm;subst q1;exact⟨⟨x,s,e,c,by simp,q2,q3⟩,(hφ.act r i j m q4).2⟩
     · obtain⟨⟨x,ho⟩,q⟩:=hφ.act k a b m hm;obtain⟨s,e,c,q1,q2,q3⟩:=dH (v:=.sl h.length 0 n none) hb hi h2 ho;exact⟨⟨x,s,e,c,by rw[List.getElem?_append_left (by simpa using h1)];exact q1,q2,q3⟩,q⟩
   · rcases h1 with⟨rfl,h1⟩|⟨h1,h1',h1''⟩<;>rcases h2 with⟨rfl,h2⟩|⟨h2,h2',h2''⟩
     · exact⟨rfl,hsep a b a' b' m h1 h2⟩
     · exact absurd (hφ.sep r i j k' a' b' m (hact a b m h1).2 h2'') fun e=>h2' ⟨e.1.symm,e.2.1.symm,e.2.2.symm⟩
     · exact absurd (hφ.sep r i j k a b m (hact a' b' m h2).2 h1'') fun e=>h1' ⟨e.1.symm,e.2.1.symm,e.2.2.symm⟩
     · exact hφ.sep k a b k' a' b' m h1'' h2''
   · rcases place k' b' L' h2 h3 h4 with⟨rfl,p1⟩|⟨p0,b0,p1,p2,p3⟩
     · rcases h1 with⟨rfl,h1⟩|⟨h1,h1',h1''⟩
       · exact hne a b m L' h1 p1 he.symm
       · exact h1' (by obtain⟨e1,e2,e3⟩:=hφ.sep k a b r i j m h1'' (he▸hl L' p1);exact⟨e1,e2,e3⟩)
     · rcases h1 with⟨rfl,h1⟩|⟨h1,h1',h1''⟩
       · exact hφ.apart r i j m k' b0 L' (hact a b m h1).2 p1 p2 p3 he
       · exact hφ.apart k a b m k' b0 L' h1'' p1 p2 p3 he
theorem lq {es:List (List T)}(hf:qp es=true){i j:Nat}{cs:List T}{x:T}(hi:es[i]? = some cs)(hj:cs[j]? = some x):zf x=true∧isL x=false:=by
 have:=List.all_eq_true.1 (List.all_eq_true.1 hf cs (List.mem_of_getElem? hi)) x (List.mem_of_getElem? hj);simpa using this
theorem RO.flat' {u:Value}{x:T}{S:Nat→Prop}(h:RO w u x S)(hl:isL x=false):RT w F u x:=by
 cases h with
 | flat _ _ _ hx hf h=>exact h.mono (fun _ _=>rfl) fun _ hb=>hb.elim
 | empty a sz=>simp[isL]at hl
 | list=>simp[isL]at hl
theorem TO {x:T}(h:∀ sz es,x≠.list sz es):oc x=.t x:=by
 cases x<;>first|rfl|exact absurd rfl (h _ _)
theorem oc_o {x y:T}(h:oc x=.o y):x=y∧isL x=true:=by
 cases x<;>simp[oc]at h
 exact⟨h,rfl⟩
theorem oc_rv {ρ':y9}{u:Value}{x:T}{S:Nat→Prop}(h:RO w u x S):RV w F ρ' u (oc x):=by
 cases h with
 | flat u x S hx hf h =>
  rw[TO fun sz es e=>by subst e;simp[isL]at hx];exact .t _ _ (h.mono (fun _ _=>rfl) fun _ hb=>hb.elim)
 | empty a sz=>exact .o _ _
 | list=>exact .o _ _
theorem To (hS : St w F ρ Ow h) (hz : ∀ r, ¬ Ow.z r) (r i : Nat) (c : Nat × Bool) : ∃ ρ', St w F ρ' Ow (yv r i c h) ∧ Nxt Ow w F ρ w F ρ' := by
 have same:∃ ρ',St w F ρ' Ow h∧Nxt Ow w F ρ w F ρ':=⟨ρ,hS,Nxt.refl _ _ _ _⟩;unfold yv
 split
 rotate_left
 · exact same
 rename_i sz es hb
 split
 rotate_left
 · exact same
 rename_i cs hi
 split
 rotate_left
 · exact same
 rename_i sz' es' hj;obtain⟨φ,hφ⟩:=hS.own;obtain⟨L,u,hL,hu,hro⟩:=hφ.cell r i c.1 _ ⟨sz,es,cs,hb,hi,hj⟩;have uniq:∀ u',cellAt w L i c.1 u'→u'=u:=fun u' hu'=>by
  obtain⟨c1,e1,f1,q1,q2⟩:=hu;obtain⟨c2,e2,f2,p1,p2⟩:=hu';rw[q1]at p1;cases p1;rw[q2]at p2;cases p2;rfl
 have main : ∀ blk : Blk, (blk = .ts sz' es' ∧ qp es' = true) ∨ blk = .vs sz' (es'.map fun e => e.map oc) → ∃ ρ', St w F ρ' Ow (h.set r (.vs sz (zY es i c.1 cs (.sl h.length 0 es'.length none))) ++ [blk]) ∧ Nxt Ow w F ρ w F ρ' := by
  intro blk hblk
  cases hro with
  | flat _ _ _ hx=>simp[isL]at hx
  | empty a _ _ =>
   refine dB hS hz hφ hb hi hj hL (l:=none) (fun u' hu'=>by rw[uniq u' hu'];exact .slP _ _ _ (by simp[newAt]) (.inl rfl)) ?_ (ψ:=fun _ _ _=>False) (fun s e a b cs' x he h1 h2=>?_) (fun _ _ _ h=>h.elim) (fun _ _ _ _ _ h=>h.elim) (fun _ _ _ _ h=>h.elim) (fun _ h=>by cases h)
   · rcases hblk with⟨rfl,_⟩|rfl
     · exact .inr ⟨by simp[newAt],rfl⟩
     · exact .inr ⟨by simp[newAt],rfl⟩
   · rcases hblk with⟨rfl,_⟩|rfl
     · cases he
     · cases he;simp at h1
  | list L' c' _ _ cc el fr g fp hn hlen hc hz' hh hs hf hbd hg hr hSb hfp sep =>
   obtain⟨hF,hOw,hlt⟩:=(hφ.act r i c.1 L'.b hSb).2;refine dB hS hz hφ hb hi hj hL (l:=some L') (n:=es'.length) (fun u' hu'=>?_) ?_ (ψ:=fun a b m=>fp a b m∧∃ s e cs' x,blk=.vs s e∧e[a]? = some cs'∧cs'[b]? = some (.o x)) (fun s e a b cs' x he h1 h2=>?_)
    (fun a b m hm=>⟨hm.2,(hfp a b m hm.1).1⟩) (fun a b a' b' m h1 h2=>sep a b a' b' m h1.1 h2.1) (fun a b m L1 hm hL1=>by cases hL1;exact (hfp a b m hm.1).2) (fun L1 hL1=>by cases hL1;exact hSb)
   · rw[uniq u' hu',hn];exact .sl _ 0 _ none L' _ c' (by simp[newAt]) (.inl (by simp)) hc (by simp) (fun _=>by simpa using hc) (fun k hk=>by cases hk) (fun h0=>by simpa using hz' h0)
   · rcases hblk with⟨rfl,hfl⟩|rfl
     · exact .inl ⟨L',by simp[newAt],rfl,⟨hn,hlen,cc,el,fr,hh,hs,hf,hbd,fun a b cs' x h1 h2=>⟨_,hg a b cs' x h1 h2,(hr a b cs' x h1 h2).flat' (lq hfl h1 h2).2⟩⟩,hF,hOw⟩
     · refine .inl ⟨L',by simp[newAt],rfl,⟨by simpa using hn,fun e he=>?_,cc,el,fr,hh,hs,hf,hbd,fun a b cs' x h1 h2=>?_⟩,hF,hOw⟩
       · simp only[List.mem_map]at he;obtain⟨e0,he0,rfl⟩:=he;rw[List.length_map];exact hlen e0 he0
       · rw[List.getElem?_map]at h1
         cases h3:es'[a]? with
         | none=>simp[h3]at h1
         | some e0 =>
          simp[h3]at h1;subst h1;rw[List.getElem?_map]at h2
          cases h4:e0[b]? with
          | none=>simp[h4]at h2
          | some y =>
           simp[h4]at h2;subst h2;exact⟨_,hg a b e0 y h3 h4,oc_rv (hr a b e0 y h3 h4)⟩
   · rcases hblk with⟨rfl,hfl⟩|rfl
     · cases he
     · cases he;have h1':=h1;have h2':=h2;rw[List.getElem?_map]at h1
       cases h3:es'[a]? with
       | none=>simp[h3]at h1
       | some e0 =>
        simp[h3]at h1;subst h1;rw[List.getElem?_map]at h2
        cases h4:e0[b]? with
        | none=>simp[h4]at h2
        | some y =>
         simp[h4]at h2;obtain⟨rfl,_⟩:=oc_o h2;exact⟨L',g a b,rfl,⟨cc,el,fr,hh,hg a b e0 y h3 h4⟩,(hr a b e0 y h3 h4).mono fun m hm=>⟨⟨hm,_,_,_,y,rfl,h1',h2'⟩,rfl⟩⟩
 split
 · split
   · rename_i hfl;exact main _ (.inl ⟨rfl,hfl⟩)
   · exact same
 · exact main _ (.inr rfl)
theorem bb (hS:St w F ρ Ow h) {φ:Nat→Nat→Nat→Nat→Prop} (hφ:sk w F ρ Ow h φ) {r i j sz:Nat} {es:List (List V)} {cs:List V} {v0:V} {x0:T} (hb:h[r]? = some (.vs sz es)) (hi:es[i]? = some cs) (hj:cs[j]? = some v0) (hv0:∀ x,v0≠.o x)
 {L:Loc} (hL:ρ r=some (some L)) {S:Nat→Prop} (hro:∀ u,cellAt w L i j u→RO w u x0 S) {q:Option Nat} (hq:∀ r',q=some r'→r'≠r)
 (hSact:∀ m,S m→¬ F m∧Ow m∧m<w.heap.size) (hSφ:∀ m k a b,S m→φ k a b m→q=some k) (hSrow:∀ m k b0 L0,S m→h[k]? = some b0→writes b0=true→ρ k=some (some L0)→q≠some k→L0.b≠m) :
 St w F ρ Ow ((match q with|some r'=>(h.set r (.vs sz (zY es i j cs (.o x0)))).set r' .dead|none=>h.set r (.vs sz (zY es i j cs (.o x0))))):=by
 have hrl:=(List.getElem?_eq_some_iff.1 hb).1;have hjl:=(List.getElem?_eq_some_iff.1 hj).1;generalize hh':(match q with|some r'=>(h.set r (.vs sz (zY es i j cs (.o x0)))).set r' .dead|none=>h.set r (.vs sz (zY es i j cs (.o x0))))=h';have hlen:h'.length=h.length:=by rw[← hh'];cases q<;>simp
 have get:∀ k b,h'[k]? = some b→(q=some k∧b=.dead)∨(q≠some k∧k=r∧b=.vs sz (zY es i j cs (.o x0)))∨(q≠some k∧k≠r∧h[k]? = some b):=fun k b hk=>by
  have step:∀ b,(h.set r (.vs sz (zY es i j cs (.o x0))))[k]? = some b→(k=r∧b=.vs sz (zY es i j cs (.o x0)))∨(k≠r∧h[k]? = some b):=fun b hk=>by
   by_cases hkr:k=r
   · subst hkr;simp[hrl]at hk;exact .inl ⟨rfl,hk.symm⟩
   · rw[List.getElem?_set_ne (Ne.symm hkr)]at hk;exact .inr ⟨hkr,hk⟩
  subst hh'
  cases q with
  | none =>
   rcases step b hk with⟨h1,h2⟩|⟨h1,h2⟩
   · exact .inr (.inl ⟨by simp,h1,h2⟩)
   · exact .inr (.inr ⟨by simp,h1,h2⟩)
  | some r' =>
   simp only at hk
   by_cases hkr:k=r'
   · subst hkr;have hkl:=(List.getElem?_eq_some_iff.1 hk).1;simp only[List.length_set]at hkl;simp[hkl]at hk;exact .inl ⟨rfl,hk.symm⟩
   · rw[List.getElem?_set_ne (Ne.symm hkr)]at hk;have hne:(some r':Option Nat)≠some k:=fun e=>hkr (by cases e;rfl)
     rcases step b hk with⟨h1,h2⟩|⟨h1,h2⟩
     · exact .inr (.inl ⟨hne,h1,h2⟩)
     · exact .inr (.inr ⟨hne,h1,h2⟩)
 have old:∀ k b,h'[k]? = some b→writes b=true→q≠some k∧∃ b0,h[k]? = some b0∧writes b0=true:=fun k b hk hw=>by
  rcases get k b hk with⟨_,rfl⟩|⟨h1,rfl,_⟩|⟨h1,_,h3⟩
  · simp[writes]at hw
  · exact⟨h1,_,hb,rfl⟩
  · exact⟨h1,b,h3,hw⟩
 have keep:∀ k a b x,q≠some k→¬ (k=r∧a=i∧b=j)→oAt h k a b x→oAt h' k a b x:=fun k a b x hqk hne ho=>by
  have:=dH (v:=.o x0) hb hi hne ho;subst hh'
  cases q with
  | none=>exact this
  | some r' =>
   obtain⟨s,e,c,h1,h2⟩:=this;exact⟨s,e,c,by simp only;rw[List.getElem?_set_ne fun e=>hqk (by rw[e])];exact h1,h2⟩
 have hqr:q≠some r:=fun e=>hq r e rfl
 refine⟨fun k b hk=>?_,fun k k' b b' L1 L2 hk hk' hw hw' h1 h2 he=>?_,hS.fsz,fun k hk=>hS.out k (by omega),?_⟩
 · rcases get k b hk with⟨_,rfl⟩|⟨_,rfl,rfl⟩|⟨_,_,h3⟩
   · trivial
   · rcases hS.blk k _ hb with⟨L',q1,q2,q3,q4,q5⟩|⟨q1,_⟩
     · rw[hL]at q1;cases q1;exact .inl ⟨L,hL,q2,o0 q3 (fun u x hr=>hr) hi hj fun u _=>.o _ _,q4,q5⟩
     · rw[hL]at q1;cases q1
   · exact hS.blk k b h3
 · obtain⟨_,b0,p1,p2⟩:=old k b hk hw;obtain⟨_,b1,p3,p4⟩:=old k' b' hk' hw';exact hS.inj k k' b0 b1 L1 L2 p1 p3 p2 p4 h1 h2 he
 · refine⟨fun k a b m=>(k=r∧a=i∧b=j∧S m)∨(q≠some k∧φ k a b m),⟨fun k a b x ho=>?_,fun k a b m hm=>?_,fun k a b k' a' b' m h1 h2=>?_,fun k a b m k' b' L' h1 h2 h3 h4 he=>?_⟩⟩
   · obtain⟨s,e,c,h1,h2,h3⟩:=ho;rcases get k _ h1 with⟨_,h4⟩|⟨h4,rfl,h5⟩|⟨h4,h5,h6⟩
     · cases h4
     · cases h5;rcases pX hi hjl h2 h3 with⟨rfl,rfl,h6⟩|⟨h6,cs0,h7,h8⟩
       · cases h6;rcases hS.blk k _ hb with⟨L',q1,q2,q3,q4,q5⟩|⟨q1,_⟩
         · rw[hL]at q1;cases q1;obtain⟨_,_,cc,el,fr,hh,_,_,_,hc⟩:=q3;obtain⟨u,hu,_⟩:=hc a b cs v0 hi hj;exact⟨L,u,hL,⟨cc,el,fr,hh,hu⟩,(hro u ⟨cc,el,fr,hh,hu⟩).mono fun m hm=>⟨.inl ⟨rfl,rfl,rfl,hm⟩,rfl⟩⟩
         · rw[hL]at q1;cases q1
       · obtain⟨L',u,q1,q2,q3⟩:=hφ.cell k a b x ⟨_,es,cs0,hb,h7,h8⟩;exact⟨L',u,q1,q2,q3.mono fun m hm=>⟨.inr ⟨h4,hm⟩,rfl⟩⟩
     · obtain⟨L',u,q1,q2,q3⟩:=hφ.cell k a b x ⟨s,e,c,h6,h2,h3⟩;exact⟨L',u,q1,q2,q3.mono fun m hm=>⟨.inr ⟨h4,hm⟩,rfl⟩⟩
   · rcases hm with⟨rfl,rfl,rfl,hm⟩|⟨h1,hm⟩
     · obtain⟨cs',h2,h3⟩:=TA (v:=.o x0) hi hjl;refine⟨⟨x0,sz,zY es a b cs (.o x0),cs',?_,h2,h3⟩,hSact m hm⟩;subst hh'
       cases q with
       | none=>simp[hrl]
       | some r'=>simp only;rw[List.getElem?_set_ne fun e=>hq r' rfl e];simp[hrl]
     · obtain⟨⟨x,ho⟩,h2⟩:=hφ.act k a b m hm;refine⟨⟨x,keep k a b x h1 (fun e=>?_) ho⟩,h2⟩;obtain⟨rfl,rfl,rfl⟩:=e;obtain⟨s,e,c,p1,p2,p3⟩:=ho;rw[hb]at p1;cases p1;rw[hi]at p2;cases p2;rw[hj]at p3;cases p3;exact hv0 x rfl
   · rcases h1 with⟨rfl,rfl,rfl,h1⟩|⟨h1,h1'⟩<;>rcases h2 with⟨rfl,rfl,rfl,h2⟩|⟨h2,h2'⟩
     · exact⟨rfl,rfl,rfl⟩
     · exact absurd (hSφ m k' a' b' h1 h2') h2
     · exact absurd (hSφ m k a b h2 h1') h1
     · exact hφ.sep k a b k' a' b' m h1' h2'
   · obtain⟨p0,b0,p1,p2⟩:=old k' b' h2 h3;rcases h1 with⟨rfl,rfl,rfl,h1⟩|⟨h1,h1'⟩
     · exact hSrow m k' b0 L' h1 p1 p2 h4 p0 he
     · exact hφ.apart k a b m k' b0 L' h1' p1 p2 h4 he
theorem fK:∀ {vs:List V} {xs:List T},oTs vs=some xs→xs.length=vs.length∧∀ (j:Nat) x,xs[j]? = some x→∃ v,vs[j]? = some v∧oT v=some x
 | [],xs,hx=>by simp only[oTs]at hx;cases hx;exact⟨rfl,fun j x hj=>by simp at hj⟩
 | v::vs,xs,hx=>by
  simp only[oTs]at hx
  split at hx
  · rename_i y h1
    split at hx
    · rename_i xs' h2
      cases hx;obtain⟨k1,k2⟩:=fK h2;refine⟨by simp[k1],fun j x hj=>?_⟩
      cases j with
      | zero=>simp at hj;subst hj;exact⟨v,rfl,h1⟩
      | succ j=>simpa using k2 j x (by simpa using hj)
    · cases hx
  · cases hx
theorem cq:∀ {es:List (List V)} {xs:List (List T)},ZS es=some xs→xs.length=es.length∧∀ (i:Nat) ys,xs[i]? = some ys→∃ cs,es[i]? = some cs∧oTs cs=some ys
 | [],xs,hx=>by simp only[ZS]at hx;cases hx;exact⟨rfl,fun i ys hi=>by simp at hi⟩
 | c::cs,xs,hx=>by
  simp only[ZS]at hx
  split at hx
  · rename_i y h1
    split at hx
    · rename_i xs' h2
      cases hx;obtain⟨k1,k2⟩:=cq h2;refine⟨by simp[k1],fun i ys hi=>?_⟩
      cases i with
      | zero=>simp at hi;subst hi;exact⟨c,rfl,h1⟩
      | succ i=>simpa using k2 i ys (by simpa using hi)
    · cases hx
  · cases hx
theorem Si (hS : St w F ρ Ow h) (r i : Nat) (c : Nat × Bool) : St w F ρ Ow (yx r i c h) := by
 unfold yx
 split
 rotate_left
 · exact hS
 rename_i sz es hb
 split
 rotate_left
 · exact hS
 rename_i cs hi;obtain⟨φ,hφ⟩:=hS.own
 -- the row's own place
 have hLrow:∀ v0,cs[c.1]? = some v0→∃ L,ρ r=some (some L)∧∀ u,cellAt w L i c.1 u→RV w F ρ u v0:=fun v0 hj=>by
  rcases hS.blk r _ hb with⟨L,q1,q2,q3,q4,q5⟩|⟨_,q1⟩
  · refine⟨L,q1,fun u hu=>?_⟩;obtain⟨_,_,cc,el,fr,hh,_,_,_,hc⟩:=q3;obtain⟨u',hu',hr⟩:=hc i c.1 cs v0 hi hj;obtain⟨c1,e1,f1,p1,p2⟩:=hu;rw[hh]at p1;cases p1;rw[hu']at p2;cases p2;exact hr
  · subst q1;simp at hi
 split
 · -- a nil slice
   rename_i sz' hj;obtain⟨L,hL,hu⟩:=hLrow _ hj;exact bb hS hφ (q:=none) (S:=fun _=>False) (x0:=.list sz' []) hb hi hj (fun x e=>by cases e) hL (fun u hu'=>by have:=hu u hu';cases this;exact .empty _ _ _) (fun r' e=>by cases e) (fun m hm=>hm.elim) (fun m k a b hm=>hm.elim) (fun m k b0 L0 hm=>hm.elim)
 · rename_i r' off len cap hj;obtain⟨L,hL,hu⟩:=hLrow _ hj
   split
   rotate_left
   · exact hS
   rename_i hc;obtain⟨rfl,hne⟩:=hc
   have main : ∀ (blk : Blk) (sz' : Nat) (xs : List (List T)), h[r']? = some blk → writes blk = true → xs.length = len →
    ((∃ L',ρ r'=some (some L')∧L'.sz=sz'∧xs.length≤L'.n∧(∀ e∈xs,e.length=L'.sz)∧∃ cc el fr,w.heap[L'.b]? = some (.cells cc el fr)∧cc.size=L'.z∧(∀ k,k<cc.size→¬(fr.1≤k∧k<fr.2))∧L'.o+L'.n*L'.sz≤L'.z ∧
     ∀ a b cs' x,xs[a]? = some cs'→cs'[b]? = some x→∃ u,cc[L'.o+(a*L'.sz+b)]? = some u∧RO w u x (φ r' a b))∨(ρ r'=some none∧xs=[])) →
    St w F ρ Ow ((h.set r (.vs sz (zY es i c.1 cs (.o (.list sz' xs))))).set r' .dead):=by
    intro blk sz' xs hb' hw hlen hplace;have:=bb hS hφ (q:=some r') (S:=fun m=>(∃ L',ρ r'=some (some L')∧m=L'.b)∨∃ a b,φ r' a b m) (x0:=.list sz' xs) hb hi hj (fun x e=>by cases e) hL (fun u hu'=>?_) (fun r'' e=>by cases e;exact hne) (fun m hm=>?_) (fun m k a b hm hx=>?_) (fun m k b0 L0 hm h1 h2 h3 h4=>?_)
    · exact this
    · have hrv:=hu u hu';rcases hplace with⟨L',p1,p2,p3,p4,cc,el,fr,p5,p6,p7,p8,p9⟩|⟨p1,p2⟩
      · cases hrv with
        | slP _ _ a hρ=>rw[p1]at hρ;cases hρ
        | sl _ _ _ _ L1 a c' hρ ha hl hn hc0 hc1 hz =>
         rw[p1]at hρ;cases hρ
         by_cases hc0':c'=0
         · subst hc0';have:len=0:=by omega
           have hx0:xs=[]:=List.eq_nil_of_length_eq_zero (by omega);subst hx0;subst this;exact .empty a sz' _
         · obtain rfl:=ha.resolve_right hc0';subst p2;simp only[Nat.zero_mul,Nat.add_zero,Nat.zero_add]at hz ⊢;have hmul:len*L'.sz≤L'.n*L'.sz:=Nat.mul_le_mul_right _ (by omega);refine .list ⟨L'.b,L'.o,L'.sz,len,L'.z⟩ c' xs _ cc el fr (fun a b=>(cc[L'.o+(a*L'.sz+b)]?).getD undef) (fun a b=>φ r' a b) hlen p4 hl hz p5 p6 p7 (by simp only;omega) (fun a b cs' x h1 h2=>?_) (fun a b cs' x h1 h2=>?_) (.inl ⟨L',p1,rfl⟩) (fun a b m hm=>⟨.inr ⟨a,b,hm⟩,fun e=>hφ.apart r' a b m r' blk L' hm hb' hw p1 e.symm⟩) (fun a b a' b' m h1 h2=>(hφ.sep r' a b r' a' b' m h1 h2).2)
           · obtain⟨u,hu,_⟩:=p9 a b cs' x h1 h2;simp[hu]
           · obtain⟨u,hu,hr⟩:=p9 a b cs' x h1 h2;simpa [hu] using hr
      · subst p2
        cases hrv with
        | slP _ _ a hρ=>exact .empty a sz' _
        | sl _ _ _ _ L1 a c' hρ=>rw[p1]at hρ;cases hρ
    · rcases hm with⟨L',p1,rfl⟩|⟨a,b,hm⟩
      · exact (hS.blk r' blk hb').vX hw p1
      · exact (hφ.act r' a b m hm).2
    · rcases hm with⟨L',p1,rfl⟩|⟨a',b',hm⟩
      · exact absurd rfl (hφ.apart k a b L'.b r' blk L' hx hb' hw p1)
      · rw[(hφ.sep r' a' b' k a b m hm hx).1]
    · rcases hm with⟨L',p1,rfl⟩|⟨a',b',hm⟩
      · exact fun e=>h4 (by rw[hS.inj k r' b0 blk L0 L' h1 hb' h2 hw h3 p1 e])
      · exact hφ.apart r' a' b' m k b0 L0 hm h1 h2 h3
   split
   · rename_i sz' es' hb'
     split
     · rename_i hc;refine main _ sz' es' hb' rfl hc.1 ((hS.blk r' _ hb').imp (fun⟨L',q1,q2,q3,_⟩=>?_) id);obtain⟨k1,k2,cc,el,fr,k3,k4,k5,k6,k7⟩:=q3;exact⟨L',q1,q2,Nat.le_of_eq k1,k2,cc,el,fr,k3,k4,k5,k6,fun a b cs' x h1 h2=>by
        obtain⟨u,hu,hr⟩:=k7 a b cs' x h1 h2;obtain⟨f1,f2⟩:=lq hc.2 h1 h2;exact⟨u,hu,.flat _ _ _ f2 f1 (s5 hr f1)⟩⟩
     · split
       · rename_i hc;refine main _ sz' (es'.take len) hb' rfl (by rw[List.length_take];omega) ((hS.blk r' _ hb').imp (fun⟨L',q1,q2,q3,_⟩=>?_) fun⟨q1,q2⟩=>⟨q1,by subst q2;simp⟩);obtain⟨k1,k2,cc,el,fr,k3,k4,k5,k6,k7⟩:=q3;exact⟨L',q1,q2,by rw[List.length_take];omega,fun e he=>k2 e (List.mem_of_mem_take he),cc,el,fr,k3,k4,k5,k6,fun a b cs' x h1 h2=>by
          have h1':es'[a]? = some cs':=by
           rw[List.getElem?_take]at h1
           split at h1
           · exact h1
           · cases h1
          obtain⟨u,hu,hr⟩:=k7 a b cs' x h1' h2;obtain⟨f1,f2⟩:=lq hc.2 h1 h2;exact⟨u,hu,.flat _ _ _ f2 f1 (s5 hr f1)⟩⟩
       · exact hS
   · rename_i sz' es' hb';have vs:∀ (n:Nat) (xs:List (List T)),ZS (es'.take n)=some xs→n=len→len≤es'.length→St w F ρ Ow ((h.set r (.vs sz (zY es i c.1 cs (.o (.list sz' xs))))).set r' .dead):=fun n xs hxs hn hle=>by
      subst hn;obtain⟨e1,e2⟩:=cq hxs;have hget:∀ a cs0,(es'.take n)[a]? = some cs0→es'[a]? = some cs0:=fun a cs0 h1=>by
       rw[List.getElem?_take]at h1
       split at h1
       · exact h1
       · cases h1
      refine main _ sz' xs hb' rfl (by rw[e1,List.length_take];omega) ((hS.blk r' _ hb').imp (fun⟨L',q1,q2,q3,_⟩=>?_) fun⟨q1,q2⟩=>⟨q1,by subst q2;simpa using e1⟩);obtain⟨k1,k2,cc,el,fr,k3,k4,k5,k6,k7⟩:=q3;refine⟨L',q1,q2,by rw[e1,List.length_take];omega,fun e he=>?_,cc,el,fr,k3,k4,k5,k6,fun a b cs' x h1 h2=>?_⟩
      · obtain⟨a,ha⟩:=List.mem_iff_getElem?.1 he;obtain⟨cs',c1,c2⟩:=e2 a e ha;rw[(fK c2).1];exact k2 cs' (List.mem_of_getElem? (hget _ _ c1))
      · obtain⟨cs0,c1,c2⟩:=e2 a cs' h1;obtain⟨v,d1,d2⟩:=(fK c2).2 b x h2;obtain⟨u,hu,hr⟩:=k7 a b cs0 v (hget _ _ c1) d1;refine⟨u,hu,?_⟩
        cases v with
        | t y =>
         simp only[oT]at d2
         split at d2
         · rename_i hf;simp only[Bool.and_eq_true,Bool.not_eq_true']at hf
           cases d2
           cases hr with
           | t _ _ hr=>exact .flat _ _ _ hf.2 hf.1 (s5 hr hf.1)
         · cases d2
        | o y =>
         simp only[oT]at d2;cases d2;obtain⟨L1,u1,p1,⟨c1',e1',f1',p2,p3⟩,p4⟩:=hφ.cell r' a b x ⟨_,es',cs0,hb',hget _ _ c1,d1⟩;rw[q1]at p1;cases p1;rw[k3]at p2;cases p2;rw[hu]at p3;cases p3;exact p4
        | nil sz'' =>
         simp only[oT]at d2;cases d2
         cases hr;exact .empty _ _ _
        | _=>simp[oT]at d2
     split
     · rename_i hlen
       split
       · rename_i xs hxs;exact vs len xs (by rw[List.take_of_length_le (by omega)];exact hxs) rfl (by omega)
       · exact hS
     · split
       · rename_i hle
         split
         · rename_i xs hxs;exact vs len xs hxs rfl hle
         · exact hS
       · exact hS
   · exact hS
 · exact hS
end Go.Proofs.YtefkoljdebekdaaGreatDoor.E
/- A row's part made zero; cells forgotten. Conditions: those of each lemma. -/
namespace Go.Proofs.YtefkoljdebekdaaGreatDoor.E
variable {P:Program} {w:World} {F:Nat→Prop} {ρ:y9} {Ow:Own} {h:Heap}
theorem YQ {α:Type}{es:List α}{off len:Nat}{z:α}(hlen:off+len≤es.length)(i:Nat):(es.take off++List.replicate len z++es.drop (off+len))[i]? = if off≤i∧i<off+len then some z else es[i]? := by
 rw[List.append_assoc]
 by_cases h1:i<off
 · rw[List.getElem?_append_left (by simp;omega),List.getElem?_take,if_pos h1,if_neg (by omega)]
 · rw[List.getElem?_append_right (by simp;omega)];simp only[List.length_take,Nat.min_eq_left (show off≤es.length by omega)]
   by_cases h2:i<off+len
   · rw[List.getElem?_append_left (by simp;omega),if_pos (by omega)];simp[show i - off<len by omega]
   · rw[List.getElem?_append_right (by simp;omega),if_neg (by omega),List.getElem?_drop];simp only[List.length_replicate]
     congr 1;omega
theorem ir {α:Type} {R R':Value→α→Prop} {L:Loc} {es:List (List α)} (hr:xw w L es R) (hR:∀ u x,R u x→R' u x) {off len:Nat} {z:List α} {us:List Value} (hlen:off+len≤es.length) (hzl:z.length=L.sz) (hul:us.length=len*L.sz)
 (hus:∀ a b y,a<len→z[b]? = some y→∃ u,us[a*L.sz+b]? = some u∧R' u y):xw (w.setCells L.b (L.o+off*L.sz) us) L (es.take off++List.replicate len z++es.drop (off+len)) R':=by
 obtain⟨hn,hl,c,el,fr,hh,hs,hf,hz,hc⟩:=hr;have hin:(off+len)*L.sz≤L.n*L.sz:=Nat.mul_le_mul_right _ (by omega);rw[Nat.add_mul]at hin;obtain⟨c',k1,k2,k3⟩:=xc us L.b (L.o+off*L.sz) w c el fr hh (by omega);refine⟨by simp;omega,fun e he=>?_,c',el,fr,k1,by omega,fun k hk=>hf k (by omega),hz,fun i j cs x hi hj=>?_⟩
 · simp only[List.mem_append]at he;rcases he with (he|he)|he
   · exact hl e (List.mem_of_mem_take he)
   · rw[List.eq_of_mem_replicate he];exact hzl
   · exact hl e (List.mem_of_mem_drop he)
 · rw[YQ hlen]at hi;rw[k3]
   split at hi
   · rename_i hoi
     cases hi;have hjl:=(List.getElem?_eq_some_iff.1 hj).1;obtain⟨a,rfl⟩:∃ a,i=off+a:=⟨i - off,by omega⟩;have h1:(a+1)*L.sz≤len*L.sz:=Nat.mul_le_mul_right _ (by omega);rw[Nat.add_mul]at h1;have e:=Nat.add_mul off a L.sz;rw[if_pos (by omega)];obtain⟨u,h2,h3⟩:=hus a j x (by omega) hj;exact⟨u,by rw[show L.o+((off+a)*L.sz+j) - (L.o+off*L.sz)=a*L.sz+j by omega];exact h2,h3⟩
   · rename_i hoi;obtain⟨u,h1,h2⟩:=hc i j _ _ hi hj;have hjl:j<L.sz:=by
      have:=(List.getElem?_eq_some_iff.1 hj).1;rw[hl cs (List.mem_of_getElem? hi)]at this;exact this
     rw[if_neg ?_]
     · exact⟨u,h1,hR _ _ h2⟩
     · rcases Nat.lt_or_ge i off with hlt|hge
       · have:(i+1)*L.sz≤off*L.sz:=Nat.mul_le_mul_right _ (by omega);rw[Nat.add_mul]at this;omega
       · have:(off+len)*L.sz≤i*L.sz:=Nat.mul_le_mul_right _ (by omega);rw[Nat.add_mul]at this;omega
theorem TR {r off len sz:Nat} {es:List (List V)} {zs:List V} (hlen:off+len≤es.length) (hb:h[r]? = some (.vs sz es)) {L:Loc} (hr:xw w L es (RV w F ρ)) {us:List Value} (hul:us.length=len*L.sz) (hok:zs.all y5=true) {i j:Nat} {x:T}
 (ho:oAt (h.set r (.vs sz (es.take off++List.replicate len zs++es.drop (off+len)))) r i j x):oAt h r i j x∧∀ u,cellAt w L i j u→cellAt (w.setCells L.b (L.o+off*L.sz) us) L i j u:=by
 obtain⟨hn,hl,c,el,fr,hh,hs,hf,hz,hc⟩:=hr;have hin:(off+len)*L.sz≤L.n*L.sz:=Nat.mul_le_mul_right _ (by omega);rw[Nat.add_mul]at hin;obtain⟨c',k1,k2,k3⟩:=xc us L.b (L.o+off*L.sz) w c el fr hh (by omega);have hrl:=(List.getElem?_eq_some_iff.1 hb).1;obtain⟨sz',es',cs',h1,h2,h3⟩:=ho;simp only[List.getElem?_set_self hrl,Option.some.injEq,Blk.vs.injEq]at h1;obtain⟨rfl,rfl⟩:=h1;rw[YQ hlen]at h2
 split at h2
 · cases h2;have:=List.all_eq_true.1 hok _ (List.mem_of_getElem? h3);simp[y5]at this
 · rename_i hoi;have hjl:j<L.sz:=by
    have:=(List.getElem?_eq_some_iff.1 h3).1;rw[hl cs' (List.mem_of_getElem? h2)]at this;exact this
   refine⟨⟨sz,es,cs',hb,h2,h3⟩,fun u hu=>?_⟩;obtain⟨c1,el1,fr1,p1,p2⟩:=hu;rw[hh]at p1;cases p1;refine⟨c',el,fr,k1,?_⟩;rw[k3,if_neg ?_]
   · exact p2
   · rcases Nat.lt_or_ge i off with hlt|hge
     · have:(i+1)*L.sz≤off*L.sz:=Nat.mul_le_mul_right _ (by omega);rw[Nat.add_mul]at this;omega
     · have:(off+len)*L.sz≤i*L.sz:=Nat.mul_le_mul_right _ (by omega);rw[Nat.add_mul]at this;omega
theorem qv (z:Array Value)(n a b:Nat)(u:Value)(ha:a<n)(hb:z[b]? = some u):(Builtin.zeroCells z n).toList[a*z.size+b]? = some u:=by
 have hbl:b<z.size:=(Array.getElem?_eq_some_iff.1 hb).1;have h1:(a+1)*z.size≤n*z.size:=Nat.mul_le_mul_right _ (by omega);rw[Nat.add_mul]at h1;have hlt:a*z.size+b<n*z.size:=by omega
 unfold Builtin.zeroCells;simp only[Array.toList_map,Array.toList_range,List.getElem?_map,List.getElem?_range hlt,Option.map_some];rw[show (a*z.size+b) % z.size=b by rw[Nat.add_comm,Nat.add_mul_mod_self_right,Nat.mod_eq_of_lt hbl]];rw[getElem!_pos z b hbl];obtain⟨_,e⟩:=Array.getElem?_eq_some_iff.1 hb;rw[e]
theorem uZ (z:Array Value)(n:Nat):(Builtin.zeroCells z n).toList.length=n*z.size:=by simp[Builtin.zeroCells]
theorem js:∀ {vs:List V} {xs:List T},qO vs=some xs→xs.length=vs.length∧∀ {us:List Value},RVs w F ρ us vs→RTs w F us xs
 | [],xs,h=>by cases h;exact⟨rfl,fun hu=>by cases hu;exact .nil⟩
 | v::vs,xs,h=>by
  simp only[qO]at h
  split at h
  · split at h
    · rename_i ys hy
      cases h;obtain⟨h1,h2⟩:=js hy;refine⟨by simp[h1],fun hu=>?_⟩
      cases hu with
      | cons k1 k2 =>
       cases k1 with
       | t _ _ hx=>exact .cons hx (h2 k2)
    · cases h
  · split at h
    · rename_i ys hy
      cases h;obtain⟨h1,h2⟩:=js hy;refine⟨by simp[h1],fun hu=>?_⟩
      cases hu with
      | cons k1 k2 =>
       cases k1 with
       | nil=>exact .cons (.list none 0 0 _ [] (fun _ _=>undef) rfl (Nat.le_refl _) (fun hp=>absurd hp (Nat.lt_irrefl _)) (fun e he=>by simp at he) (fun i j cs x hi=>by simp at hi)) (h2 k2)
    · cases h
  · cases h
theorem Sx (hS:St w F ρ Ow h){t el:TypeId}(hel:yo P t=some el){zs:List V}(hz:zeroOf P el=some zs){r off len:Nat}{cap:Option Nat}{v:V}{h':Heap}(hc:yu (zC P el) zs r off len h=some (v,h')){u:Value}(hu:RV w F ρ u (.sl r off len cap))(ty:TypeId) :
 xx P w F ρ Ow (Builtin.clear_ #[t] ty #[u]) v h':=by
 have htup:∀ (w':World) F' ρ',RV w' F' ρ' (.tuple #[]) (.tup []):=fun w' F' ρ'=>RV.gN .nil
 obtain⟨hty,_,_⟩:=xW hel;obtain⟨inf,z,i1,i2,i3,i4,i5⟩:=wT (w:=w) (F:=F) (ρ:=ρ) hz;have hszi:z.cells.size=zC P el:=by rw[i3];simp[zC,Program.cellsOf,i1]
 have hzone:=Zu i4 (pT hz);have hzl:zs.length=zC P el:=i5;have run0:∀ a c,(Builtin.clear_ #[t] ty #[.slice a 0 c]).run P w=.ok (.tuple #[]) w:=fun a c=>by cases a<;>simp[Builtin.clear_,zF hty]
 unfold yu at hc
 -- nothing is there
 have zero:∀ (b:Blk),h[r]? = some b→len=0→v=.tup []→h'=h.set r b→xx P w F ρ Ow (Builtin.clear_ #[t] ty #[u]) v h':=fun b hb hl hv hh=>by
  subst hl hv;have hhe:h'=h:=by
   rw[hh];obtain⟨hlt,hb'⟩:=List.getElem?_eq_some_iff.1 hb;rw[← hb',List.set_getElem_self hlt]
  subst hhe
  cases hu with
  | sl r off len cap L a c=>exact .same hS (run0 a c) (htup _ _ _)
  | slP r cap a=>exact .same hS (run0 a 0) (htup _ _ _)
 -- cells are there
 have some_:∀ (b blk:Blk),h[r]? = some b→writes b=true→0<len→v=.tup []→h'=h.set r blk→(∀ L,ρ r=some (some L)→L.sz=zC P el∧off+len≤L.n∧(∃ c e fr,w.heap[L.b]? = some (.cells c e fr)∧c.size=L.z∧(∀ k,k<c.size→¬(fr.1≤k∧k<fr.2))∧L.o+L.n*L.sz≤L.z) ∧
  (Nxt Ow w F ρ (w.setCells L.b (L.o+off*L.sz) (Builtin.zeroCells z.cells len).toList) F ρ→RB (w.setCells L.b (L.o+off*L.sz) (Builtin.zeroCells z.cells len).toList) F ρ Ow r blk) ∧
  ∀ i j x,oAt (h.set r blk) r i j x→oAt h r i j x∧∀ u,cellAt w L i j u→cellAt (w.setCells L.b (L.o+off*L.sz) (Builtin.zeroCells z.cells len).toList) L i j u)→xx P w F ρ Ow (Builtin.clear_ #[t] ty #[u]) v h':=fun b blk hb hw hl hv hh hL=>by
  subst hv hh
  cases hu with
  | slP r cap a=>omega
  | sl r off len cap L a c hρ ha hlc hn hc0 hc1 hzz =>
   obtain⟨k1,k2,⟨cc,e,fr,k3,k4,k5,k6⟩,k7,k8⟩:=hL L hρ;have hce:c≠0:=by omega
   obtain rfl:=ha.resolve_right hce;obtain⟨g1,g2⟩:=r8 hS hb hw hρ (L.o+off*L.sz) (Builtin.zeroCells z.cells len).toList k7 k8;refine⟨_,F,ρ,.tuple #[],?_,htup _ _ _,g1,g2⟩;have hin:(off+len)*L.sz≤L.n*L.sz:=Nat.mul_le_mul_right _ (by omega);rw[Nat.add_mul]at hin;have hul:(Builtin.zeroCells z.cells len).toList.length=len*L.sz:=by rw[uZ,hszi,k1]
   have hth:=r7 (b:=L.b) (o:=L.o+off*L.sz) (n:=(Builtin.zeroCells z.cells len).toList.length) k3 k5 (by rw[hul];omega);have hst:=run_storeCells_cells (P:=P) L.b (L.o+off*L.sz) (Builtin.zeroCells z.cells len).toList 0 w (fun j hj=>by simpa using (hth j hj).1) (fun j hj=>by simpa using (hth j hj).2) (fun v hv=>by
    unfold Builtin.zeroCells at hv;simp only[Array.toList_map,Array.toList_range,List.mem_map,List.mem_range]at hv;obtain⟨k,hk,rfl⟩:=hv;have hpos:0<z.cells.size:=by
     rcases Nat.eq_zero_or_pos z.cells.size with h0|h0
     · rw[h0]at hk;simp at hk
     · exact h0
    have hm:=Nat.mod_lt k hpos;rw[getElem!_pos z.cells _ hm];exact List.all_eq_true.1 hzone _ (by simp))
   simp only[Nat.add_zero]at hst;obtain⟨n,rfl⟩:∃ n,len=n+1:=⟨len - 1,by omega⟩;have hzv:=tc (P:=P) (w:=w) i1 i2;simp[Builtin.clear_,zF hty,hzv,hst]
 split at hc
 · rename_i sz es hb
   split at hc
   · rename_i zt hzt
     split at hc
     · rename_i hcond;obtain⟨e1,e2⟩:=hcond
       cases hc;rcases Nat.eq_zero_or_pos len with h0|hpos
       · refine zero _ hb h0 rfl ?_;subst h0;simp
       · refine some_ _ _ hb rfl hpos rfl rfl fun L hL=>?_
         rcases hS.blk r _ hb with⟨L',h1,h2,h3,h4,h5⟩|⟨h1,_⟩
         · rw[hL]at h1;cases h1;obtain⟨q1,q2⟩:=js (w:=w) (F:=F) (ρ:=ρ) hzt;have q3:=q2 i4;obtain⟨hn,hl,cc,e,fr,hh,hs,hf,hzz,hcc⟩:=id h3;refine⟨by omega,by omega,⟨cc,e,fr,hh,hs,hf,hzz⟩,fun hN=>.inl ⟨L,hL,h2,ir h3 (fun _ _ x=>hN.rt x) e2 (by omega) (by rw[uZ,hszi,h2,e1]) fun a b y ha hy=>?_,h4,h5⟩,fun i j x ho=>?_⟩
           · obtain⟨u',k1,k2⟩:=yh q3 b y hy;refine⟨u',?_,hN.rt k2⟩;rw[h2,e1,← hszi];exact qv _ _ _ _ _ ha (by simpa using k1)
           · have hrl:=(List.getElem?_eq_some_iff.1 hb).1;obtain⟨sz1,es1,cs1,q1,_⟩:=ho;simp[hrl]at q1
         · rw[hL]at h1;cases h1
     · cases hc
   · cases hc
 · rename_i sz es hb
   split at hc
   · rename_i hcond;obtain⟨e1,e2⟩:=hcond
     cases hc;rcases Nat.eq_zero_or_pos len with h0|hpos
     · refine zero _ hb h0 rfl ?_;subst h0;simp
     · refine some_ _ _ hb rfl hpos rfl rfl fun L hL=>?_
       rcases hS.blk r _ hb with⟨L',h1,h2,h3,h4,h5⟩|⟨h1,_⟩
       · rw[hL]at h1;cases h1;obtain⟨hn,hl,cc,e,fr,hh,hs,hf,hzz,hcc⟩:=id h3;have hul:(Builtin.zeroCells z.cells len).toList.length=len*L.sz:=by rw[uZ,hszi,h2,e1]
         refine⟨by omega,by omega,⟨cc,e,fr,hh,hs,hf,hzz⟩,fun hN=>.inl ⟨L,hL,h2,ir h3 (fun _ _ x=>hN.rv x) e2 (by omega) hul fun a b y ha hy=>?_,h4,h5⟩,fun i j x ho=>TR e2 hb h3 hul (pT hz) ho⟩;obtain⟨u',k1,k2⟩:=yh i4 b y hy;refine⟨u',?_,hN.rv k2⟩;rw[h2,e1,← hszi];exact qv _ _ _ _ _ ha (by simpa using k1)
       · rw[hL]at h1;cases h1
   · cases hc
 · cases hc
theorem Qt (hS:St w F ρ Ow h){t:TypeId}{x v:V}{h':Heap}(hc:yr P t x h=some (v,h')){u:Value}(hu:RV w F ρ u x)(ty:TypeId):xx P w F ρ Ow (Builtin.clear_ #[t] ty #[u]) v h':=by
 unfold yr at hc
 split at hc
 rotate_left
 · cases hc
 rename_i el hel;obtain⟨hty,_,_⟩:=xW hel
 split at hc
 · cases hc
   cases hu;exact .same hS (by simp[Builtin.clear_,zF hty]) (RV.gN .nil)
 · split at hc
   · rename_i zs hz;exact Sx hS hel hz hc hu ty
   · cases hc
 · cases hc
theorem rZ (hS:St w F ρ Ow h) {r sz i j:Nat} {es:List (List V)} {cs:List V} {v v':V} (hb:h[r]? = some (.vs sz es)) (hi:es[i]? = some cs) (hj:cs[j]? = some v) (hv':∀ x,v'≠.o x)
 (hR:∀ u,RV w F ρ u v→RV w F ρ u v'):St w F ρ Ow (h.set r (.vs sz (zY es i j cs v'))):=by
 obtain⟨φ,hφ⟩:=hS.own;have hrl:=(List.getElem?_eq_some_iff.1 hb).1;have hw:∀ r' b',(h.set r (.vs sz (zY es i j cs v')))[r']? = some b'→writes b'=true→∃ b0,h[r']? = some b0∧writes b0=true:=fun r' b' hr hw=>by
  rw[List.getElem?_set]at hr
  split at hr
  · rename_i e;subst e;exact⟨_,hb,rfl⟩
  · exact⟨_,hr,hw⟩
 refine⟨fun r' b hr=>?_,fun r1 r2 b1 b2 L1 L2 h1 h2 w1 w2 l1 l2 e=>?_,hS.fsz,fun r' hr'=>hS.out r' (by simpa using hr'),?_⟩
 · rw[List.getElem?_set]at hr
   split at hr
   · rename_i e;subst e
     cases hr;rcases hS.blk r _ hb with⟨L,h1,h2,h3,h4,h5⟩|⟨h1,h2⟩
     · refine .inl ⟨L,h1,h2,o0 h3 (fun _ _ x=>x) hi hj fun u hu=>?_,h4,h5⟩;obtain⟨hn,hl,c,el,fr,hh,hs,hf,hz,hc⟩:=h3;obtain⟨u',k1,k2⟩:=hc i j cs v hi hj;obtain⟨c1,el1,fr1,q1,q2⟩:=hu;rw[hh]at q1;cases q1;rw[k1]at q2;cases q2;exact hR _ k2
     · subst h2;simp at hi
   · exact hS.blk r' b hr
 · obtain⟨b1',k1,k2⟩:=hw r1 b1 h1 w1;obtain⟨b2',k3,k4⟩:=hw r2 b2 h2 w2;exact hS.inj r1 r2 b1' b2' L1 L2 k1 k3 k2 k4 l1 l2 e
 · refine hφ.next (Ext.refl _) (Nat.le_refl _) (fun r' i' j' b hb'=>⟨rfl,(hφ.act r' i' j' b hb').2.1⟩) (fun r' i' j' x ho=>⟨?_,fun L u _ hu=>hu⟩) fun r' b L hr hw' hL=>?_
   · by_cases he:r'=r
     · subst he;rcases cr hb hi hj ho with⟨_,_,h3⟩|⟨_,h3⟩
       · exact absurd h3 (hv' x)
       · exact h3
     · exact fL ho (List.getElem?_set_ne fun e=>he e.symm)
   · obtain⟨b0,k1,k2⟩:=hw r' b hr hw';exact .inr ⟨r',b0,L,k1,k2,hL,rfl⟩
theorem Z7 (hS:St w F ρ Ow h){r off len sz:Nat}{cap:Option Nat}{es:List (List T)}(hb:h[r]? = some (.fz sz es)){u:Value}(hu:RV w F ρ u (.sl r off len cap)):RV w F ρ u (.t (.list sz ((es.drop off).take len))):=by
 rcases hS.blk r _ hb with⟨L,h1,h2,h3,h4⟩|⟨h1,h2⟩
 · exact .t _ _ (tH h1 hu h2 h3 h4)
 · subst h2
   cases hu with
   | sl r off len cap L a c hρ'=>rw[h1]at hρ';cases hρ'
   | slP r cap a hρ hc=>simpa using RV.t (ρ:=ρ) _ _ (vi F a sz)
theorem Sh (hS : St w F ρ Ow h) (r i : Nat) (c : Nat × Bool) : ∃ F', St w F' ρ Ow (yw r i c h) ∧ Nxt Ow w F ρ w F' ρ := by
 have same:∃ F',St w F' ρ Ow h∧Nxt Ow w F ρ w F' ρ:=⟨F,hS,Nxt.refl _ _ _ _⟩;unfold yw
 split
 rotate_left
 · exact same
 rename_i sz es hb
 split
 rotate_left
 · exact same
 rename_i cs hi
 split
 · rename_i r' off len cap hj
   split
   · exact same
   rename_i hne
   split
   · rename_i sz' es' hb';have hu:∃ u,RV w F ρ u (.sl r' off len cap):=by
      rcases hS.blk r _ hb with⟨L,h1,h2,h3,h4,h5⟩|⟨h1,h2⟩
      · obtain⟨hn,hl,c',el,fr,hh,hs,hf,hz,hc⟩:=h3;obtain⟨u,_,k2⟩:=hc i c.1 cs _ hi hj;exact⟨u,k2⟩
      · subst h2;simp at hi
     obtain⟨u,hu⟩:=hu;obtain⟨F',_,k2,k3⟩:=cZ hS hb' hu;have hrl':=(List.getElem?_eq_some_iff.1 hb').1;have hb1:(h.set r' (.fz sz' es'))[r]? = some (.vs sz es):=by rw[List.getElem?_set_ne hne];exact hb
     have hb2:(h.set r' (.fz sz' es'))[r']? = some (.fz sz' es'):=by simp[hrl']
     exact⟨F',rZ k2 hb1 hi hj (fun x h=>by cases h) fun u hu=>Z7 k2 hb2 hu,k3⟩
   · rename_i sz' es' hb';exact⟨F,rZ hS hb hi hj (fun x h=>by cases h) fun u hu=>Z7 hS hb' hu,Nxt.refl _ _ _ _⟩
   · rename_i sz' es' hb'
     split
     · rename_i xs hxs;have hu:∃ u,RV w F ρ u (.sl r' off len cap):=by
        rcases hS.blk r _ hb with⟨L,h1,h2,h3,h4,h5⟩|⟨h1,h2⟩
        · obtain⟨hn,hl,c',el,fr,hh,hs,hf,hz,hc⟩:=h3;obtain⟨u,_,k2⟩:=hc i c.1 cs _ hi hj;exact⟨u,k2⟩
        · subst h2;simp at hi
       obtain⟨u,hu⟩:=hu;obtain⟨F',_,k2,k3⟩:=b5 hS hb' hxs hu;have hrl':=(List.getElem?_eq_some_iff.1 hb').1;have hb1:(h.set r' (.fz sz' xs))[r]? = some (.vs sz es):=by rw[List.getElem?_set_ne hne];exact hb
       have hb2:(h.set r' (.fz sz' xs))[r']? = some (.fz sz' xs):=by simp[hrl']
       exact⟨F',rZ k2 hb1 hi hj (fun x h=>by cases h) fun u hu=>Z7 k2 hb2 hu,k3⟩
     · exact same
   · exact same
 · rename_i sz' hj;exact⟨F,rZ hS hb hi hj (fun x h=>by cases h) fun u hu=>by cases hu;exact .t _ _ (vi F none sz'),Nxt.refl _ _ _ _⟩
 · exact same
theorem Sj (hS:St w F ρ Ow h)(r i:Nat)(c:Nat×Bool):St w F ρ Ow (yz r i c h):=by
 unfold yz
 split
 rotate_left
 · exact hS
 rename_i sz es hb
 split
 rotate_left
 · exact hS
 rename_i cs hi
 by_cases hjl:c.1<cs.length
 · obtain⟨φ,hφ⟩:=hS.own;have hj:cs[c.1]? = some cs[c.1]:=List.getElem?_eq_getElem hjl;have hrl:=(List.getElem?_eq_some_iff.1 hb).1;have hw:∀ r' b',(h.set r (.vs sz (zY es i c.1 cs .bad)))[r']? = some b'→writes b'=true→∃ b0,h[r']? = some b0∧writes b0=true:=fun r' b' hr hw=>by
    rw[List.getElem?_set]at hr
    split at hr
    · rename_i e;subst e;exact⟨_,hb,rfl⟩
    · exact⟨_,hr,hw⟩
   refine⟨fun r' b hr=>?_,fun r1 r2 b1 b2 L1 L2 h1 h2 w1 w2 l1 l2 e=>?_,hS.fsz,fun r' hr'=>hS.out r' (by simpa using hr'),?_⟩
   · rw[List.getElem?_set]at hr
     split at hr
     · rename_i e;subst e
       cases hr;rcases hS.blk r _ hb with⟨L,h1,h2,h3,h4,h5⟩|⟨h1,h2⟩
       · exact .inl ⟨L,h1,h2,o0 h3 (fun _ _ x=>x) hi hj fun u _=>.bad u,h4,h5⟩
       · subst h2;simp at hi
     · exact hS.blk r' b hr
   · obtain⟨b1',k1,k2⟩:=hw r1 b1 h1 w1;obtain⟨b2',k3,k4⟩:=hw r2 b2 h2 w2;exact hS.inj r1 r2 b1' b2' L1 L2 k1 k3 k2 k4 l1 l2 e
   · refine hφ.next (Ext.refl _) (Nat.le_refl _) (fun r' i' j' b hb'=>⟨rfl,(hφ.act r' i' j' b hb').2.1⟩) (fun r' i' j' x ho=>⟨?_,fun L u _ hu=>hu⟩) fun r' b L hr hw' hL=>?_
     · by_cases he:r'=r
       · subst he;rcases cr hb hi hj ho with⟨_,_,h3⟩|⟨_,h3⟩
         · cases h3
         · exact h3
       · exact fL ho (List.getElem?_set_ne fun e=>he e.symm)
     · obtain⟨b0,k1,k2⟩:=hw r' b hr hw';exact .inr ⟨r',b0,L,k1,k2,hL,rfl⟩
 · have:cs.set c.1 .bad=cs:=List.set_eq_of_length_le (by omega);unfold zY;rw[this];obtain⟨g1,g2⟩:=List.getElem?_eq_some_iff.1 hi;obtain⟨g3,g4⟩:=List.getElem?_eq_some_iff.1 hb;rw[← g2,List.set_getElem_self g1,← g4,List.set_getElem_self g3];exact hS
end Go.Proofs.YtefkoljdebekdaaGreatDoor.E

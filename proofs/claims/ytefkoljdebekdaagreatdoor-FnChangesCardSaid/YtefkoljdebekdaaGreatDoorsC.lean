/- Joined: E5 E6 E7 E8 E9. Conditions: those of each lemma. -/
import Derived.Test.YtefkoljdebekdaaGreatDoorsB
import Derived.Deep.Upon
import Derived.Deep.AppendSrc
import Derived.Great.BuildSlice
import Derived.Laws.Strings
import Derived.Laws.Small
import Derived.Laws.StructEq
set_option linter.unusedVariables false
set_option linter.unusedSimpArgs false
namespace Go.Proofs.YtefkoljdebekdaaGreatDoor.E
variable {P:Program} {w:World} {F:Nat→Prop} {ρ:y9} {Ow:Own} {h:Heap}
theorem gS (w:World)(b o:Nat)(v:Value)(c:Array Value)(el:TypeId)(fr:Nat×Nat)(hb:w.heap[b]? = some (.cells c el fr)) :
 (w.setCell ⟨b,o,none⟩ v).heap[b]? = some (.cells (c.setIfInBounds o v) el fr):=by
 simp[World.setCell,Array.getElem?_modify,hb]
theorem eN (w:World)(b o:Nat)(v:Value)(k:Nat)(hk:k≠b):(w.setCell ⟨b,o,none⟩ v).heap[k]? = w.heap[k]? := by
 simp[World.setCell,Array.getElem?_modify,Ne.symm hk]
theorem setCells_size:∀ (vs:List Value) (b o:Nat) (w:World),(w.setCells b o vs).heap.size=w.heap.size
 | [],_,_,_=>rfl
 | v::r,b,o,w=>by rw[World.setCells,setCells_size r];simp[World.setCell]
theorem qB:∀ (vs:List Value) (b o:Nat) (w:World),(w.setCells b o vs).os=w.os∧(w.setCells b o vs).tape=w.tape∧(w.setCells b o vs).output=w.output
 | [],_,_,_=>⟨rfl,rfl,rfl⟩
 | v::r,b,o,w=>by rw[World.setCells];exact qB r b (o+1) _
theorem x5:∀ (vs:List Value) (b o:Nat) (w:World) (k:Nat),k≠b→(w.setCells b o vs).heap[k]? = w.heap[k]?
 | [],_,_,_,_,_=>rfl
 | v::r,b,o,w,k,hk=>by rw[World.setCells,x5 r b (o+1) _ k hk,eN w b o v k hk]
theorem xc:∀ (vs:List Value) (b o:Nat) (w:World) (c:Array Value) (el:TypeId) (fr:Nat×Nat),w.heap[b]? = some (.cells c el fr)→o+vs.length≤c.size →
 ∃ c',(w.setCells b o vs).heap[b]? = some (.cells c' el fr)∧c'.size=c.size∧∀ k,c'[k]? = if o≤k∧k<o+vs.length then vs[k - o]? else c[k]?
 | [],b,o,w,c,el,fr,hb,_=>⟨c,hb,rfl,fun k=>by simp only[List.length_nil,Nat.add_zero];rw[if_neg (by omega)]⟩
 | v::r,b,o,w,c,el,fr,hb,hl=>by
  simp only[List.length_cons]at hl;obtain⟨c',h1,h2,h3⟩:=xc r b (o+1) _ _ el fr (gS w b o v c el fr hb) (by simp;omega);refine⟨c',h1,by simpa using h2,fun k=>?_⟩;rw[h3 k];simp only[List.length_cons]
  by_cases hk:o=k
  · subst hk;rw[if_neg (by omega),if_pos (by omega)];simp[show o<c.size by omega]
  · by_cases hk':o+1≤k∧k<o+1+r.length
    · rw[if_pos hk',if_pos (by omega),show k - o=(k - (o+1))+1 by omega];simp
    · rw[if_neg hk',if_neg (by omega),Array.getElem?_setIfInBounds_ne hk]
theorem xJ (w:World)(o:Obj):(w.alloc o).heap=w.heap.push o:=rfl
theorem ny (w:World)(o:Obj):(w.alloc o).heap[w.heap.size]? = some o:=by simp[xJ]
theorem uM {N:Option Nat}{h:Heap}{blk:Blk}(hN:∀ i,N=some i→i<h.length)(r:Nat):(nH N h blk)[r]? = if r=nI N h then some blk else h[r]? := by
 cases N with
 | none =>
  by_cases he:r=nI none h
  · rw[if_pos he];have he':r=h.length:=he;subst he'
    show (h++[blk])[h.length]? = some blk
    simp
  · rw[if_neg he];have he':r≠h.length:=he
    show (h++[blk])[r]? = h[r]?
    rcases Nat.lt_or_ge r h.length with hlt|hge
    · rw[List.getElem?_append_left hlt]
    · rw[List.getElem?_append_right hge,List.getElem?_eq_none (by simp;omega),List.getElem?_eq_none hge]
 | some i =>
  have hi:=hN i rfl
  by_cases he:r=nI (some i) h
  · rw[if_pos he];have he':r=i:=he;subst he'
    show (h.set r blk)[r]? = some blk
    simp[hi]
  · rw[if_neg he];have he':¬ i=r:=fun e=>he e.symm
    show (h.set i blk)[r]? = h[r]?
    rw[List.getElem?_set_ne he']
structure OkO (Ow:Own) (w:World) (ρ:y9) (h:Heap):Prop where
 blk:∀ b,w.heap.size≤b→Ow b
 free:¬ Ow.z (nI Ow.N h)
 dead:∀ i,Ow.N=some i→h[i]? = some .dead∧ρ i=none
structure OkC (Ow:Own) (w:World):Prop where
 blk:∀ b,w.heap.size≤b→Ow b
 z:∀ r,¬ Ow.z r
 n:Ow.N=none
structure OkZ (Ow:Own) (w:World) (h:Heap):Prop where
 blk:∀ b,w.heap.size≤b→Ow b
 z:∀ r,Ow.z r→r<h.length
theorem OkC.op (hO:OkC Ow w):OkO Ow w ρ h:=⟨hO.blk,hO.z _,fun i hi=>by rw[hO.n]at hi;cases hi⟩
theorem OkC.mono {w':World}(hO:OkC Ow w)(hs:w.heap.size≤w'.heap.size):OkC Ow w':=⟨fun b hb=>hO.blk b (Nat.le_trans hs hb),hO.z,hO.n⟩
theorem OkC.own (b:Nat→Prop)(hb:∀ k,w.heap.size≤k→b k):OkC (own b) w:=⟨hb,fun _ h=>h,rfl⟩
theorem OkO.drew (hO:OkO Ow w ρ h):OkO Ow w.drew ρ h:=⟨hO.blk,hO.free,hO.dead⟩
theorem OkO.lt (hO:OkO Ow w ρ h):∀ i,Ow.N=some i→i<h.length:=fun i hi=>(List.getElem?_eq_some_iff.1 (hO.dead i hi).1).1
theorem OkO.vac (hO:OkO Ow w ρ h)(hS:St w F ρ Ow h):ρ (nI Ow.N h)=none:=by
 cases hN:Ow.N with
 | none=>exact hS.out _ (Nat.le_refl _)
 | some i=>exact (hO.dead i hN).2
theorem OkO.set (hO:OkO Ow w ρ h){r:Nat}{b b':Blk}(hb:h[r]? = some b)(hd:b≠.dead):OkO Ow w ρ (h.set r b'):=by
 refine⟨hO.blk,?_,fun i hi=>?_⟩
 · have:=hO.free
   cases hN:Ow.N<;>simp[hN,nI]at this ⊢ <;> exact this
 · have hne:r≠i:=fun e=>by
    subst e;rw[(hO.dead r hi).1]at hb;cases hb;exact hd rfl
   rw[List.getElem?_set_ne hne];exact hO.dead i hi
theorem OkO.new (hO:OkO Ow w ρ h)(hS:St w F ρ Ow h){l:Option Loc}:Ext ρ (fun r=>if r=nI Ow.N h then some l else ρ r)∧(∀ r,Ow.z r→(fun r=>if r=nI Ow.N h then some l else ρ r) r=ρ r):=by
 refine⟨fun r l' hr=>?_,fun r hr=>?_⟩
 · by_cases he:r=nI Ow.N h
   · subst he;rw[hO.vac hS]at hr;cases hr
   · simp[he,hr]
 · have:r≠nI Ow.N h:=fun e=>hO.free (e▸hr)
   simp[this]
theorem OkO.out (hO:OkO Ow w ρ h)(hS:St w F ρ Ow h){blk:Blk}{h0:Heap}(hh:h0.length=h.length){l:Option Loc}{r:Nat}(hr:(nH Ow.N h0 blk).length≤r):(fun r=>if r=nI Ow.N h then some l else ρ r) r=none:=by
 have h1:r≠nI Ow.N h∧h.length≤r:=by
  cases hN:Ow.N with
  | none=>simp[hN,nH,nI]at hr ⊢;omega
  | some i =>
   have:=hO.lt i hN;simp[hN,nH,nI]at hr ⊢;omega
 simp only[h1.1,if_false];exact hS.out r h1.2
def noO:Blk→Prop
 | .vs _ es=>∀ (i j:Nat) (cs:List V) (x:T),es[i]? = some cs→cs[j]? = some (.o x)→False
 | _=>True
theorem aS {sz:Nat}{es:List (List V)}(h:∀ c∈es,c.all y5=true):noO (.vs sz es):=fun i j cs x hi hj=>by
 have:=List.all_eq_true.1 (h cs (List.mem_of_getElem? hi)) _ (List.mem_of_getElem? hj);simp[y5]at this
theorem aU {N:Option Nat}{h0:Heap}{blk:Blk}(hh:∀ r,(nH N h0 blk)[r]? = if r=nI N h then some blk else h0[r]?){r i j:Nat}{x:T}(hn:noO blk)(ho:oAt (nH N h0 blk) r i j x):r≠nI N h∧oAt h0 r i j x:=by
 obtain⟨sz,es,cs,h1,h2,h3⟩:=ho;rw[hh]at h1
 split at h1
 · cases h1;exact (hn i j cs x h2 h3).elim
 · rename_i hne;exact⟨hne,sz,es,cs,h1,h2,h3⟩
theorem TS (hS:St w F ρ Ow h)(hO:OkO Ow w ρ h)(o:Obj)(l:Option Loc) :
 Nxt Ow w F ρ (w.alloc o) F (fun r=>if r=nI Ow.N h then some l else ρ r) :=
 ⟨rfl,rfl,rfl,by simp[xJ],fun b hb _=>by simp[xJ,Array.getElem?_push,Nat.ne_of_lt hb],
  fun b hb=>by have:=hS.fsz b hb;simp[xJ,Array.getElem?_push,Nat.ne_of_lt this],fun _ x=>x,fun _ x=>.inl x,(hO.new hS).1,(hO.new hS).2⟩
theorem jy (hS:St w F ρ Ow h) (hO:OkO Ow w ρ h) (arr:Array Value) (el:TypeId) (sz n:Nat) (blk:Blk)
 (hblk:∀ ρ':y9,Ext ρ ρ'→ρ' (nI Ow.N h)=some (some ⟨w.heap.size,0,sz,n,arr.size⟩)→¬ F w.heap.size→Ow w.heap.size→jI F w (w.alloc (.cells arr el))→RB (w.alloc (.cells arr el)) F ρ' Ow (nI Ow.N h) blk) (hno:noO blk) :
 ∃ ρ',St (w.alloc (.cells arr el)) F ρ' Ow (nH Ow.N h blk)∧Nxt Ow w F ρ (w.alloc (.cells arr el)) F ρ'∧ρ' (nI Ow.N h)=some (some ⟨w.heap.size,0,sz,n,arr.size⟩):=by
 have hN:=TS hS hO (.cells arr el) (some ⟨w.heap.size,0,sz,n,arr.size⟩);have hnF:¬ F w.heap.size:=fun x=>by have:=hS.fsz _ x;omega
 refine⟨_,hS.next hN (fun r hr=>hO.out hS rfl hr) (fun b hb=>Nat.lt_of_lt_of_le (hS.fsz b hb) hN.size) (fun r b hr=>?_)
  (hS.owned hN (fun b _ hF hlt _=>⟨by simp[xJ,Array.getElem?_push,Nat.ne_of_lt hlt],hF⟩) (fun r i j x ho=>?_) fun r b L hr hw hL=>?_),hN,by simp⟩
 rotate_left
 · obtain⟨hne,ho⟩:=aU (uM hO.lt) hno ho;refine⟨ho,fun L u _ hu=>?_⟩;obtain⟨c,el',fr,h1,h2⟩:=hu;have hlt:=(Array.getElem?_eq_some_iff.1 h1).1;exact⟨c,el',fr,by simpa [xJ,Array.getElem?_push,Nat.ne_of_lt hlt] using h1,h2⟩
 · rw[uM hO.lt]at hr
   split at hr
   · rename_i he;subst he;simp at hL;subst hL;exact .inl (Nat.le_refl _)
   · exact .inr (hS.same hN.ext hr hw hL)
 rw[uM hO.lt]at hr
 split at hr
 · rename_i he;subst he
   cases hr;refine .inr ⟨hblk _ hN.ext (by simp) hnF (hO.blk _ (Nat.le_refl _)) hN.agree,fun L hL hw r' b' L' hne hr' hw' hL'=>?_⟩;simp at hL;subst hL;simp only[hne,if_false]at hL';rw[uM hO.lt,if_neg hne]at hr';obtain⟨_,_,h3⟩:=(hS.blk r' b' hr').vX hw' hL';simp;omega
 · refine .inl ⟨hr,fun L hL hw=>?_⟩;obtain⟨h1,h2,h3⟩:=(hS.blk r b hr).vX hw hL;exact⟨by simp[xJ,Array.getElem?_push,Nat.ne_of_lt h3],h1⟩
theorem flat_get {α:Type}:∀ {es:List (List α)} {sz:Nat},(∀ e∈es,e.length=sz)→∀ {i j:Nat} {cs:List α} {x:α},es[i]? = some cs→cs[j]? = some x→es.flatten[i*sz+j]? = some x
 | [],_,_,_,_,_,_,hi,_=>by simp at hi
 | e :: es, sz, hz, i, j, cs, x, hi, hj => by
  have he:e.length=sz:=hz e (by simp)
  cases i with
  | zero =>
   simp at hi;subst hi;have hlt:j<e.length:=(List.getElem?_eq_some_iff.1 hj).1;simp only[List.flatten_cons,Nat.zero_mul,Nat.zero_add];rw[List.getElem?_append_left hlt];exact hj
  | succ i =>
   simp only[List.flatten_cons];rw[List.getElem?_append_right (by rw[Nat.add_mul];omega),he,show (i+1)*sz+j - sz=i*sz+j by rw[Nat.add_mul];omega];exact flat_get (fun e' he'=>hz e' (by simp[he'])) (by simpa using hi) hj
theorem w9 {α:Type}:∀ {es:List (List α)} {sz:Nat},(∀ e∈es,e.length=sz)→es.flatten.length=es.length*sz
 | [],_,_=>by simp
 | e::es,sz,hz=>by
  simp only[List.flatten_cons,List.length_append,List.length_cons];rw[w9 (fun e' he'=>hz e' (by simp[he'])),hz e (by simp),Nat.add_mul];omega
theorem Wf {α β:Type}{R:α→β→Prop}{us:List α}{vs:List β}(h:vg R us vs){k:Nat}{v:β}(hv:vs[k]? = some v):∃ u,us[k]? = some u∧R u v:=yh h k v hv
theorem rL {α:Type} {R:Value→α→Prop} {arr:Array Value} {el:TypeId} {es:List (List α)} {sz:Nat} (hz:∀ e∈es,e.length=sz) (hsz:es.length*sz≤arr.size)
 (hr:vg R (arr.toList.take (es.length*sz)) es.flatten):xw (w.alloc (.cells arr el)) ⟨w.heap.size,0,sz,es.length,arr.size⟩ es R:=by
 refine⟨rfl,hz,arr,el,(0,0),ny w _,rfl,fun k _=>by simp,by simpa using hsz,fun i j cs x hi hj=>?_⟩;obtain⟨u,hu,hru⟩:=Wf hr (flat_get hz hi hj);refine⟨u,?_,hru⟩;rw[List.getElem?_take]at hu
 split at hu
 · simpa using hu
 · cases hu
theorem aT (hS:St w F ρ Ow h) (hO:OkO Ow w ρ h) {arr:Array Value} {el:TypeId} {es:List (List T)} {sz:Nat} (hz:∀ e∈es,e.length=sz) (hsz:es.length*sz≤arr.size)
 (hr:RTs w F (arr.toList.take (es.length*sz)) es.flatten) :
 ∃ ρ',St (w.alloc (.cells arr el)) F ρ' Ow (nH Ow.N h (.ts sz es))∧Nxt Ow w F ρ (w.alloc (.cells arr el)) F ρ'∧ρ' (nI Ow.N h)=some (some ⟨w.heap.size,0,sz,es.length,arr.size⟩) :=
 jy hS hO arr el sz es.length (.ts sz es) (fun ρ' hρ hL hF hOw hA =>
  .inl ⟨_,hL,rfl,rL hz hsz (xS hr fun _ _ x=>x.mono hA fun _ y=>y),hF,hOw⟩) trivial
theorem Qg (hS:St w F ρ Ow h)(hO:OkO Ow w ρ h){arr:Array Value}{el:TypeId}{cs:List V}(hr:RVs w F ρ arr.toList cs)(hok:cs.all y5=true) :
 ∃ ρ',St (w.alloc (.cells arr el)) F ρ' Ow (nH Ow.N h (.vs cs.length [cs]))∧Nxt Ow w F ρ (w.alloc (.cells arr el)) F ρ'∧ρ' (nI Ow.N h)=some (some ⟨w.heap.size,0,cs.length,1,arr.size⟩):=by
 have hl:=zP hr;refine jy hS hO arr el cs.length 1 (.vs cs.length [cs]) (fun ρ' hρ hL hF hOw hA=>.inl ⟨_,hL,rfl,?_,hF,hOw⟩) (aS fun c hc=>by simp at hc;rw[hc];exact hok)
 have := rL (w := w) (R := RV (w.alloc (.cells arr el)) F ρ') (arr := arr) (el := el) (es := [cs]) (sz := cs.length) (fun e he => by simp at he; rw [he]) (by simp at hl ⊢; omega)
  (by simp only [List.length_singleton, Nat.one_mul, List.flatten_singleton]
      rw[List.take_of_length_le (by simp at hl ⊢;omega)];exact xS hr fun _ _ x=>x.mono hA (fun _ y=>y) hρ)
 exact this
theorem lN {α:Type}{cs xs:List α}{j:Nat}(hj:j+xs.length≤cs.length):(wB cs j xs).length=cs.length:=by
 simp[wB];omega
theorem so {α:Type}{cs xs:List α}{j:Nat}(hj:j+xs.length≤cs.length)(k:Nat):(wB cs j xs)[k]? = if j≤k∧k<j+xs.length then xs[k - j]? else cs[k]? := by
 unfold wB;rw[List.append_assoc]
 by_cases h1:k<j
 · rw[List.getElem?_append_left (by simp;omega),List.getElem?_take,if_pos h1,if_neg (by omega)]
 · rw[List.getElem?_append_right (by simp;omega)];simp only[List.length_take,Nat.min_eq_left (show j≤cs.length by omega)]
   by_cases h2:k<j+xs.length
   · rw[List.getElem?_append_left (by omega),if_pos (by omega)]
   · rw[List.getElem?_append_right (by omega),if_neg (by omega),List.getElem?_drop]
     congr 1;omega
theorem mi {α:Type} {R R':Value→α→Prop} {L:Loc} {es:List (List α)} (hr:xw w L es R) (hR:∀ u x,R u x→R' u x) {i j:Nat} {cs xs:List α} {us:List Value} (hi:es[i]? = some cs) (hj:j+xs.length≤cs.length)
 (hu:vg R' us xs):xw (w.setCells L.b (L.o+(i*L.sz+j)) us) L (es.set i (wB cs j xs)) R':=by
 obtain⟨hn,hl,c,el,fr,hh,hs,hf,hz,hc⟩:=hr;have hul:=zP hu;have hcl:=hl cs (List.mem_of_getElem? hi);have hil:i<es.length:=(List.getElem?_eq_some_iff.1 hi).1;have hin:(i+1)*L.sz≤L.n*L.sz:=Nat.mul_le_mul_right _ (by omega);rw[Nat.add_mul]at hin;obtain⟨c',k1,k2,k3⟩:=xc us L.b (L.o+(i*L.sz+j)) w c el fr hh (by omega);refine⟨by simpa using hn,fun e he=>?_,c',el,fr,k1,by omega,fun k hk=>hf k (by omega),hz,fun i' j' cs' x hi' hj'=>?_⟩
 · rcases List.mem_or_eq_of_mem_set he with he|rfl
   · exact hl e he
   · rw[lN hj];exact hcl
 · rw[List.getElem?_set]at hi';rw[k3]
   split at hi'
   · rename_i e;subst e
     cases hi';rw[so hj]at hj'
     split at hj'
     · rename_i hjj;rw[if_pos (by omega),show L.o+(i*L.sz+j') - (L.o+(i*L.sz+j))=j' - j by omega];exact yh hu _ _ hj'
     · rename_i hjj;rw[if_neg (by omega)];obtain⟨u,h1,h2⟩:=hc i j' _ _ hi hj';exact⟨u,h1,hR _ _ h2⟩
   · rename_i hne;obtain⟨u,h1,h2⟩:=hc i' j' _ _ hi' hj';have hjl:j'<L.sz:=by
      have:=(List.getElem?_eq_some_iff.1 hj').1;rw[hl cs' (List.mem_of_getElem? hi')]at this;exact this
     rw[if_neg ?_]
     · exact⟨u,h1,hR _ _ h2⟩
     · rcases Nat.lt_or_ge i' i with hlt|hge
       · have:(i'+1)*L.sz≤i*L.sz:=Nat.mul_le_mul_right _ (by omega);rw[Nat.add_mul]at this;omega
       · have:(i+1)*L.sz≤i'*L.sz:=Nat.mul_le_mul_right _ (by omega);rw[Nat.add_mul]at this;omega
theorem Xt {L:Loc} {sz r:Nat} {es:List (List V)} (hb:h[r]? = some (.vs sz es)) (hr:xw w L es (RV w F ρ)) {i j:Nat} {cs xs:List V} {us:List Value} (hi:es[i]? = some cs) (hj:j+xs.length≤cs.length)
 (hul:us.length=xs.length) (hok:xs.all y5=true) {i' j':Nat} {x:T} (ho:oAt (h.set r (.vs sz (es.set i (wB cs j xs)))) r i' j' x) :
 oAt h r i' j' x∧∀ u,cellAt w L i' j' u→cellAt (w.setCells L.b (L.o+(i*L.sz+j)) us) L i' j' u:=by
 obtain⟨hn,hl,c,el,fr,hh,hs,hf,hz,hc⟩:=hr;have hcl:=hl cs (List.mem_of_getElem? hi);have hil:i<es.length:=(List.getElem?_eq_some_iff.1 hi).1;have hin:(i+1)*L.sz≤L.n*L.sz:=Nat.mul_le_mul_right _ (by omega);rw[Nat.add_mul]at hin;obtain⟨c',k1,k2,k3⟩:=xc us L.b (L.o+(i*L.sz+j)) w c el fr hh (by omega);have hrl:=(List.getElem?_eq_some_iff.1 hb).1;obtain⟨sz',es',cs',h1,h2,h3⟩:=ho;simp[hrl]at h1;obtain⟨rfl,rfl⟩:=h1
 have key : (∃ cs0, es[i']? = some cs0 ∧ cs0[j']? = some (.o x)) ∧ ¬ (L.o + (i * L.sz + j) ≤ L.o + (i' * L.sz + j') ∧ L.o + (i' * L.sz + j') < L.o + (i * L.sz + j) + us.length) := by
  rw[List.getElem?_set]at h2
  split at h2
  · rename_i e;subst e;simp[hil]at h2;subst h2;rw[so hj]at h3
    split at h3
    · have:=List.all_eq_true.1 hok _ (List.mem_of_getElem? h3);simp[y5]at this
    · rename_i hne;exact⟨⟨cs,hi,h3⟩,by omega⟩
  · rename_i hne;have hjl:j'<L.sz:=by
     have:=(List.getElem?_eq_some_iff.1 h3).1;rw[hl cs' (List.mem_of_getElem? h2)]at this;exact this
    refine⟨⟨cs',h2,h3⟩,?_⟩;rcases Nat.lt_or_ge i' i with hlt|hge
    · have:(i'+1)*L.sz≤i*L.sz:=Nat.mul_le_mul_right _ (by omega);rw[Nat.add_mul]at this;omega
    · have:(i+1)*L.sz≤i'*L.sz:=Nat.mul_le_mul_right _ (by omega);rw[Nat.add_mul]at this;omega
 obtain⟨⟨cs0,q1,q2⟩,q3⟩:=key;refine⟨⟨sz,es,cs0,hb,q1,q2⟩,fun u hu=>?_⟩;obtain⟨c1,el1,fr1,p1,p2⟩:=hu;rw[hh]at p1;cases p1;exact⟨c',el,fr,k1,by rw[k3,if_neg q3];exact p2⟩
theorem nt (hS:St w F ρ Ow h){L:Loc}(hF:¬ F L.b)(hOw:Ow L.b)(o:Nat)(us:List Value):Nxt Ow w F ρ (w.setCells L.b o us) F ρ:=by
 obtain⟨h1,h2,h3⟩:=qB us L.b o w;refine⟨h1,h2,h3,by rw[setCells_size];exact Nat.le_refl _,fun b _ hb=>x5 us L.b o w b fun e=>hb (e▸hOw),fun b hb=>x5 us L.b o w b fun e=>hF (e▸hb),fun _ x=>x,fun _ x=>.inl x,Ext.refl _,fun _ _=>rfl⟩
theorem r8 (hS:St w F ρ Ow h) {r:Nat} {b blk:Blk} {L:Loc} (hb:h[r]? = some b) (hw:writes b=true) (hL:ρ r=some (some L)) (o:Nat) (us:List Value)
 (hblk:Nxt Ow w F ρ (w.setCells L.b o us) F ρ→RB (w.setCells L.b o us) F ρ Ow r blk)
 (hoc:∀ i j x,oAt (h.set r blk) r i j x→oAt h r i j x∧∀ u,cellAt w L i j u→cellAt (w.setCells L.b o us) L i j u):St (w.setCells L.b o us) F ρ Ow (h.set r blk)∧Nxt Ow w F ρ (w.setCells L.b o us) F ρ:=by
 obtain⟨h1,h2,h3⟩:=(hS.blk r b hb).vX hw hL;have hN:=nt hS h1 h2 o us;refine⟨hS.next hN (fun r' hr'=>hS.out r' (by simpa using hr')) (fun b hb=>by rw[setCells_size];exact hS.fsz b hb) (fun r' b' hr'=>?_)
  (hS.owned hN (fun b' _ hF _ hne=>⟨x5 us L.b o w b' fun e=>hne r b L hb hw hL e.symm,hF⟩) (fun r' i j x ho=>?_) fun r' b' L' hr' hw' hL'=>.inr (sq hS hb hw (Ext.refl _) hr' hw' hL')),hN⟩
 rotate_left
 · by_cases he:r'=r
   · subst he;obtain⟨k1,k2⟩:=hoc i j x ho;exact⟨k1,fun L' u hL' hu=>by rw[hL]at hL';cases hL';exact k2 u hu⟩
   · have ho':=fL ho (List.getElem?_set_ne fun e=>he e.symm);refine⟨ho',fun L' u hL' hu=>v7 (x5 us L.b o w L'.b fun e=>he ?_) hu⟩;obtain⟨sz,es,cs,q1,_⟩:=ho';exact hS.inj r' r _ b L' L q1 hb rfl hw hL' hL e
 rw[List.getElem?_set]at hr'
 split at hr'
 · rename_i e;subst e
   split at hr'
   · cases hr';refine .inr ⟨hblk hN,fun L1 hL1 hw1 r2 b2 L2 hne hr2 hw2 hL2 he=>?_⟩;rw[hL]at hL1;cases hL1;rw[List.getElem?_set]at hr2
     split at hr2
     · rename_i e2;exact hne e2.symm
     · exact hne (hS.inj r2 r b2 b L2 L hr2 hb hw2 hw hL2 hL he)
   · cases hr'
 · rename_i hne;refine .inl ⟨hr',fun L' hL' hw'=>?_⟩;obtain⟨k1,k2,k3⟩:=(hS.blk r' b' hr').vX hw' hL';refine⟨x5 us L.b o w L'.b fun e=>hne (hS.inj r r' b b' L L' hb hr' hw hw' hL hL' e.symm),k1⟩
theorem b6 (hS:St w F ρ Ow h){us:List Value}{vs:List V}(hu:RVs w F ρ us vs){xs:List T}{h':Heap}(hg:qn h vs=some (xs,h')) :
 ∃ F',RTs w F' us xs∧St w F' ρ Ow h'∧Nxt Ow w F ρ w F' ρ:=by
 unfold qn at hg
 split at hg
 · rename_i ys h1 he
   split at hg
   · rename_i ts ht;cases hg;obtain⟨F',k1,k2,k3⟩:=rA ρ vs hS hu he;exact⟨F',oF k1 ht,k2,k3⟩
   · cases hg
 · cases hg
theorem r7 {c:Array Value}{el:TypeId}{fr:Nat×Nat}{b o n:Nat}(hh:w.heap[b]? = some (.cells c el fr))(hf:∀ k,k<c.size→¬(fr.1≤k∧k<fr.2))(hn:o+n≤c.size):w.there b o n:=fun j hj=>by
 constructor
 · simp[World.cell?,hh,show o+j<c.size by omega]
 · have:=hf (o+j) (by omega);simp only[World.frozen?,hh];simp only[Bool.and_eq_false_iff,decide_eq_false_iff_not];omega
theorem af (hS : St w F ρ Ow h) {r i j : Nat} {vs : List V} {h' : Heap} (hs : sy h r i j vs = some h') {u : Value} (hp : RV w F ρ u (.ptr r i j)) {us : List Value} (hu : RVs w F ρ us vs) (hok : vs.all y5 = true) :
 ∃ b o F',u=.pointer (some ⟨b,o,none⟩)∧w.there b o us.length∧St (w.setCells b o us) F' ρ Ow h'∧Nxt Ow w F ρ (w.setCells b o us) F' ρ:=by
 have hul:=zP hu
 cases hp with
 | ptr r i j L hρ =>
  refine⟨L.b,L.o+(i*L.sz+j),?_⟩;unfold sy at hs
  split at hs
  · rename_i sz es hb
    split at hs
    · rename_i cs hi
      split at hs
      · rename_i hj
        cases hs;rcases hS.blk r _ hb with⟨L',h1,h2,h3,h4,h5⟩|⟨h1,_⟩
        · rw[hρ]at h1;cases h1;have hth:w.there L.b (L.o+(i*L.sz+j)) us.length:=by
           obtain⟨hn,hl,c,el,fr,hh,hsz,hf,hz,hc⟩:=h3;have hin:(i+1)*L.sz≤L.n*L.sz:=Nat.mul_le_mul_right _ (by have:=(List.getElem?_eq_some_iff.1 hi).1;omega);rw[Nat.add_mul]at hin;have:=hl cs (List.mem_of_getElem? hi);exact r7 hh hf (by omega)
          obtain⟨k1,k2⟩:=r8 hS (blk:=.vs sz (es.set i (wB cs j vs))) hb rfl hρ (L.o+(i*L.sz+j)) us (fun hN =>
           .inl ⟨L,hρ,h2,mi h3 (fun _ _ x=>hN.rv x) hi hj (hN.rvs hu),h4,h5⟩) fun i' j' x ho=>Xt hb h3 hi hj hul hok ho
          exact⟨F,rfl,hth,k1,k2⟩
        · rw[hρ]at h1;cases h1
      · cases hs
    · cases hs
  · rename_i sz es hb
    split at hs
    · rename_i cs hi
      split at hs
      · rename_i hj
        split at hs
        · rename_i xs h2 hg
          split at hs
          · rename_i sz' es' hb'
            cases hs;obtain⟨F',k1,k2,k3⟩:=b6 hS hu hg;have hxl:=zP k1;rcases hS.blk r _ hb with⟨L',h1,h2',h3,h4,h5⟩|⟨h1,_⟩
            · rw[hρ]at h1;cases h1;have hth:w.there L.b (L.o+(i*L.sz+j)) us.length:=by
               obtain⟨hn,hl,c,el,fr,hh,hsz,hf,hz,hc⟩:=h3;have hin:(i+1)*L.sz≤L.n*L.sz:=Nat.mul_le_mul_right _ (by have:=(List.getElem?_eq_some_iff.1 hi).1;omega);rw[Nat.add_mul]at hin;have:=hl cs (List.mem_of_getElem? hi);exact r7 hh hf (by omega)
              have hnF:=((k2.blk r _ hb').vX rfl hρ);obtain⟨k4,k5⟩:=r8 k2 (blk:=.ts sz (es.set i (wB cs j xs))) hb' rfl hρ (L.o+(i*L.sz+j)) us (fun hN =>
               .inl ⟨L,hρ,h2',mi (h3.mono rfl fun _ _ x=>k3.rt x) (fun _ _ x=>hN.rt x) hi (by omega) (xS k1 fun _ _ x=>hN.rt x),hnF.1,hnF.2.1⟩) fun i' j' x ho=>by
               have hrl:=(List.getElem?_eq_some_iff.1 hb').1;obtain⟨sz1,es1,cs1,q1,_⟩:=ho;simp[hrl]at q1
              exact⟨F',rfl,hth,k4,k3.trans k5⟩
            · rw[hρ]at h1;cases h1
          · cases hs
        · cases hs
      · cases hs
    · cases hs
  · cases hs
end Go.Proofs.YtefkoljdebekdaaGreatDoor.E
/- The evaluator's append is the machine's. Conditions: those of each lemma. -/
namespace Go.Proofs.YtefkoljdebekdaaGreatDoor.E
variable {P:Program} {w:World} {F:Nat→Prop} {ρ:y9} {Ow:Own} {h:Heap}
theorem kX (hS:St w F ρ Ow h):St w.drew F ρ Ow h∧Nxt Ow w F ρ w.drew F ρ:=by
 have hN:Nxt Ow w F ρ w.drew F ρ:=⟨rfl,rfl,rfl,Nat.le_refl _,fun _ _ _=>rfl,fun _ _=>rfl,fun _ x=>x,fun _ x=>.inl x,Ext.refl _,fun _ _=>rfl⟩;exact⟨hS.next hN hS.out hS.fsz (fun r b hr=>.inl ⟨hr,fun L hL hw=>⟨rfl,((hS.blk r b hr).vX hw hL).1⟩⟩)
  (hS.owned hN (fun b _ hF _ _=>⟨rfl,hF⟩) (fun _ _ _ _ ho=>⟨ho,fun _ _ _ hx=>hx⟩) fun r b L hr hw hL=>.inr (hS.same (Ext.refl _) hr hw hL)),hN⟩
theorem ja {r r':Nat}{b:Blk}(hr:(h.set r .dead)[r']? = some b)(hb:b≠.dead):r'≠r∧h[r']? = some b:=by
 rw[List.getElem?_set]at hr
 split at hr
 · split at hr
   · cases hr;exact absurd rfl hb
   · cases hr
 · rename_i hne;exact⟨fun e=>hne e.symm,hr⟩
theorem wm {r r':Nat}{b:Blk}(hr:(h.set r .dead)[r']? = some b)(hw:writes b=true):r'≠r∧h[r']? = some b:=ja hr (by intro e;subst e;simp[writes]at hw)
theorem fN (hS:St w F ρ Ow h)(r:Nat):St w F ρ Ow (h.set r .dead) :=
 hS.next (Nxt.refl Ow w F ρ) (fun r' hr'=>hS.out r' (by simpa using hr')) hS.fsz (fun r' b' hr'=>by
  rw[List.getElem?_set]at hr'
  split at hr'
  · rename_i e;subst e
    split at hr'
    · cases hr';exact .inr ⟨trivial,fun L' _ hw=>by simp[writes]at hw⟩
    · cases hr'
  · exact .inl ⟨hr',fun L' hL' hw=>⟨rfl,((hS.blk r' b' hr').vX hw hL').1⟩⟩)
  (hS.owned (Nxt.refl Ow w F ρ) (fun b _ hF _ _=>⟨rfl,hF⟩) (fun r' i j x ho=>⟨q9 (by rintro _ _ ⟨⟩) ho,fun _ _ _ hx=>hx⟩) fun r' b' L' hr' hw hL'=>.inr (hS.same (Ext.refl _) (wm hr' hw).2 hw hL'))
theorem jh (hS:St w F ρ Ow h)(hO:OkO Ow w ρ h)(sz:Nat):∃ ρ',St w F ρ' Ow (nH Ow.N h (.ts sz []))∧Nxt Ow w F ρ w F ρ'∧ρ' (nI Ow.N h)=some none:=by
 have hN:Nxt Ow w F ρ w F (fun r=>if r=nI Ow.N h then some none else ρ r):=⟨rfl,rfl,rfl,Nat.le_refl _,fun _ _ _=>rfl,fun _ _=>rfl,fun _ x=>x,fun _ x=>.inl x,(hO.new hS).1,(hO.new hS).2⟩;refine⟨_,hS.next hN (fun r hr=>hO.out hS rfl hr) hS.fsz (fun r b hr=>?_)
  (hS.owned hN (fun b _ hF _ _=>⟨rfl,hF⟩) (fun r i j x ho=>⟨(aU (uM hO.lt) (show noO (.ts sz []) from trivial) ho).2,fun _ _ _ hx=>hx⟩) fun r b L hr hw hL=>?_),hN,by simp⟩
 rotate_left
 · rw[uM hO.lt]at hr
   split at hr
   · rename_i he;subst he;simp at hL
   · exact .inr (hS.same hN.ext hr hw hL)
 rw[uM hO.lt]at hr
 split at hr
 · rename_i he;subst he
   cases hr;exact .inr ⟨.inr ⟨by simp,rfl⟩,fun L hL=>by simp at hL⟩
 · exact .inl ⟨hr,fun L hL hw=>⟨rfl,((hS.blk r b hr).vX hw hL).1⟩⟩
theorem Tx (hS : St w F ρ Ow h) {el tx : TypeId} {x : V} {xs : List (List T)} (hx : vz P el tx x h = some xs) {u : Value} (hu : RV w F ρ u x) (hel : zC P el ≠ 0) :
 (∃ news,Src P (zC P el) tx u xs.length news w∧RTs w F news xs.flatten∧∀ e∈xs,e.length=zC P el):=by
 unfold vz at hx
 split at hx
 rotate_left
 · split at hx
   · rename_i l
     split at hx
     · rename_i hi
       cases hx
       cases hu with
       | t u x hx =>
        cases hx with
        | str s l hl =>
         subst hl;have hk:P.underlying tx=some .string:=by
          have:=hi.1;unfold isStr at this
          split at this
          · assumption
          · simp at this
         have hflat:(List.map (fun b:UInt8=>[T.int .u8 (b.toNat:Int)]) s.data.toList).flatten=s.data.toList.map fun b=>T.int .u8 (b.toNat:Int):=by
          induction s.data.toList with
          | nil=>rfl
          | cons a l ih=>simp[ih]
         refine⟨byteCells s,?_,?_,fun e he=>?_⟩
         · rw[hi.2];have:=Src.ofString (P:=P) w hk s
           rwa [show (List.map (fun b:UInt8=>[T.int .u8 (b.toNat:Int)]) s.data.toList).length=s.size by simp]
         · rw[hflat];unfold byteCells;generalize s.data.toList=l
           induction l with
           | nil=>exact .nil
           | cons a l ih=>exact .cons (.int _ _) ih
         · simp only[List.mem_map]at he;obtain⟨b,_,rfl⟩:=he;simp[hi.2]
     · cases hx
   · cases hx
 rename_i e' hel';have he':P.underlying tx=some (.slice e'):=by
  unfold yo at hel'
  split at hel'
  · split at hel'
    · cases hel';assumption
    · cases hel'
  · cases hel'
 split at hx
 · rename_i sz es
   split at hx
   · rename_i hsz
     cases hx
     cases hu with
     | t u x hx =>
      cases hx with
      | list a n c sz es g hn hc h0 hz hr =>
       subst hn
       by_cases hne:xs=[]
       · subst hne;refine⟨[],?_,.nil,fun e he=>by cases he⟩
         cases a with
         | none=>exact Src.ofNil w he' c
         | some ad=>exact Src.ofSlice w he' ad 0 c [] (by simp) (fun j u hj=>by simp at hj) (fun u hu=>by cases hu)
       · have hsz':sz=zC P el:=by
          simp at hsz;rcases hsz with h1|h1
          · exact h1
          · exact absurd h1 hne
         subst hsz';obtain⟨b,o,rfl,hb,hcell⟩:=h0 (List.length_pos_iff.2 hne);have hlen:=w9 hz;have hpos:0<zC P el:=by omega
         have hlook:∀ k,k<xs.length*zC P el→∃ y,xs.flatten[k]? = some y∧RT w F (g (k / zC P el) (k % zC P el)) y∧w.cell? ⟨b,o+k,none⟩=some (g (k / zC P el) (k % zC P el)):=fun k hk=>by
          have h1:k / zC P el<xs.length:=(Nat.div_lt_iff_lt_mul hpos).2 hk;have h2:k % zC P el<zC P el:=Nat.mod_lt _ hpos;have h3:=Nat.div_add_mod k (zC P el);have h4:(xs[k / zC P el]'h1).length=zC P el:=hz _ (List.getElem_mem h1);have hget:=flat_get hz (List.getElem?_eq_getElem h1) (List.getElem?_eq_getElem (show k % zC P el<(xs[k / zC P el]'h1).length by omega));rw[show k / zC P el*zC P el+k % zC P el=k by rw[Nat.mul_comm];omega]at hget;refine⟨_,hget,hr _ _ _ _ (List.getElem?_eq_getElem h1) (List.getElem?_eq_getElem (by omega)),?_⟩;have:=hcell (k / zC P el) (k % zC P el) h1 h2;rw[show k / zC P el*zC P el+k % zC P el=k by rw[Nat.mul_comm];omega]at this;exact this
         refine⟨(List.range (xs.length*zC P el)).map fun k=>g (k / zC P el) (k % zC P el),?_,x6 (by simp[hlen]) fun k u v hu hv=>?_,hz⟩
         · refine Src.ofSlice w he' _ _ _ _ (by simp) (fun j u hj=>?_) (fun u hu=>?_)
           · have hjl:j<xs.length*zC P el:=by
              have:=(List.getElem?_eq_some_iff.1 hj).1;simpa using this
             obtain⟨y,_,_,h3⟩:=hlook j hjl;simp[hjl]at hj;subst hj;rw[Addr.add_mid];exact h3
           · simp only[List.mem_map,List.mem_range]at hu;obtain⟨k,hk,rfl⟩:=hu;obtain⟨y,_,h2,_⟩:=hlook k hk;exact (rk h2).2
         · have hkl:k<xs.length*zC P el:=by
            have:=(List.getElem?_eq_some_iff.1 hu).1;simpa using this
           obtain⟨y,h1,h2,_⟩:=hlook k hkl;simp[hkl]at hu;subst hu;rw[h1]at hv;cases hv;exact h2
   · cases hx
 · cases hx
   cases hu with
   | nil sz=>exact⟨[],Src.ofNil w he' 0,.nil,fun e he=>by cases he⟩
 · rename_i r off len cap
   have main : ∀ sz (es : List (List T)), ((∃ L, ρ r = some (some L) ∧ L.sz = sz ∧ xw w L es (RT w F)) ∨ (ρ r = some none ∧ es = [])) → sz = zC P el → xs = (es.drop off).take len →
    ∃ news,Src P (zC P el) tx u xs.length news w∧RTs w F news xs.flatten∧∀ e∈xs,e.length=zC P el:=by
    intro sz es hrow hsz hxs
    cases hu with
    | slP r cap a hρ hc =>
     simp at hxs;subst hxs;refine⟨[],?_,.nil,fun e he=>by cases he⟩
     cases a with
     | none=>exact Src.ofNil w he' 0
     | some ad=>exact Src.ofSlice w he' ad 0 0 [] (by simp) (fun j u hj=>by simp at hj) (fun u hu=>by cases hu)
    | sl r off len cap L a c hρ ha hl hn hc0 hc1 hz =>
     rcases hrow with⟨L',h1,h2,h3⟩|⟨h1,_⟩
     · rw[hρ]at h1;cases h1;obtain⟨hn',hl',cc,el',fr,hh,hs,hf,hzz,hcc⟩:=h3;have hzlen:∀ e∈xs,e.length=zC P el:=fun e he=>by
        rw[hxs]at he;rw[hl' e (List.mem_of_mem_drop (List.mem_of_mem_take he)),h2,hsz]
       have hxl:xs.length=len:=by rw[hxs];simp;omega
       have hpos:0<zC P el:=by omega
       by_cases hlen0:len=0
       · subst hlen0;have hxe:xs=[]:=List.eq_nil_of_length_eq_zero hxl;subst hxe;refine⟨[],?_,.nil,fun e he=>by cases he⟩
         cases a with
         | none=>exact Src.ofNil w he' c
         | some ad=>exact Src.ofSlice w he' ad 0 c [] (by simp) (fun j u hj=>by simp at hj) (fun u hu=>by cases hu)
       · have hc':c≠0:=by omega
         obtain rfl:=ha.resolve_right hc';have hsz':L.sz=zC P el:=h2.trans hsz;have hlook:∀ k,k<xs.length*zC P el→∃ y u,xs.flatten[k]? = some y∧RT w F u y∧w.cell? ⟨L.b,L.o+off*L.sz+k,none⟩=some u:=fun k hk=>by
          have h1:k / zC P el<xs.length:=(Nat.div_lt_iff_lt_mul hpos).2 hk;have h2:k % zC P el<zC P el:=Nat.mod_lt _ hpos;have h3:=Nat.div_add_mod k (zC P el);have h4:(xs[k / zC P el]'h1).length=zC P el:=hzlen _ (List.getElem_mem h1);have hget:=flat_get hzlen (List.getElem?_eq_getElem h1) (List.getElem?_eq_getElem (show k % zC P el<(xs[k / zC P el]'h1).length by omega));rw[show k / zC P el*zC P el+k % zC P el=k by rw[Nat.mul_comm];omega]at hget;have hes:es[off+k / zC P el]? = some (xs[k / zC P el]'h1):=by
           have h5:((es.drop off).take len)[k / zC P el]? = some (xs[k / zC P el]'h1):=hxs▸List.getElem?_eq_getElem h1;rw[List.getElem?_take,List.getElem?_drop,if_pos (by omega)]at h5;exact h5
          obtain⟨u,hu,hru⟩:=hcc _ _ _ _ hes (List.getElem?_eq_getElem (show k % zC P el<(xs[k / zC P el]'h1).length by omega));refine⟨_,u,hget,hru,?_⟩;unfold World.cell?;rw[hh];simp only[Option.isSome_none];rw[show L.o+off*L.sz+k=L.o+((off+k / zC P el)*L.sz+k % zC P el) by
           rw[Nat.add_mul,hsz',Nat.mul_comm (k / zC P el)];omega]
          simpa using hu
         refine⟨(List.range (xs.length*zC P el)).map fun k=>(w.cell? ⟨L.b,L.o+off*L.sz+k,none⟩).getD undef,?_,x6 (by simp[w9 hzlen]) fun k u v hu hv=>?_,hzlen⟩
         · rw[← hxl];refine Src.ofSlice w he' _ _ _ _ (by simp) (fun j u hj=>?_) (fun u hu=>?_)
           · have hjl:j<xs.length*zC P el:=by
              have:=(List.getElem?_eq_some_iff.1 hj).1;simpa using this
             obtain⟨y,u',_,_,h3⟩:=hlook j hjl;simp[hjl,h3]at hj;subst hj;rw[Addr.add_mid];exact h3
           · simp only[List.mem_map,List.mem_range]at hu;obtain⟨k,hk,rfl⟩:=hu;obtain⟨y,u',_,h2,h3⟩:=hlook k hk;rw[h3];exact (rk h2).2
         · have hkl:k<xs.length*zC P el:=by
            have:=(List.getElem?_eq_some_iff.1 hu).1;simpa using this
           obtain⟨y,u',h1,h2,h3⟩:=hlook k hkl;simp[hkl,h3]at hu;subst hu;rw[h1]at hv;cases hv;exact h2
     · rw[hρ]at h1;cases h1
   split at hx
   · rename_i sz es hb
     split at hx
     · rename_i hsz
       cases hx;exact main sz es ((hS.blk r _ hb).imp (fun⟨L,a,b,c,_⟩=>⟨L,a,b,c⟩) id) (by simpa using hsz) rfl
     · cases hx
   · rename_i sz es hb
     split at hx
     · rename_i hsz
       cases hx;exact main sz es ((hS.blk r _ hb).imp (fun⟨L,a,b,c,_⟩=>⟨L,a,b,c⟩) id) (by simpa using hsz) rfl
     · cases hx
   · cases hx
 · cases hx
theorem Q0 {u:Value}{x:V}(hu:RV w F ρ u x):RV w F ρ u (unN x):=by
 cases hu with
 | t u x hx =>
  cases hx with
  | nlist a n c sz es b hb h=>exact .t _ _ h
  | int k n=>exact .t _ _ (.int k n)
  | bool b=>exact .t _ _ (.bool b)
  | str s l h=>exact .t _ _ (.str s l h)
  | list a n c sz es g hn hc h0 hz hr=>exact .t _ _ (.list a n c sz es g hn hc h0 hz hr)
  | fp b o cs g hF hc hr=>exact .t _ _ (.fp b o cs g hF hc hr)
  | fn f caps vs hv g hg hr=>exact .t _ _ (.fn f caps vs hv g hg hr)
  | nilp=>exact .t _ _ .nilp
  | nilf=>exact .t _ _ .nilf
  | nili=>exact .t _ _ .nili
  | nni t v=>exact .t _ _ (.nni t v)
 | nil sz=>exact .nil sz
 | sl r off len cap L a c hρ ha hl hn hc0 hc1 hz=>exact .sl r off len cap L a c hρ ha hl hn hc0 hc1 hz
 | slP r cap a hρ hc=>exact .slP r cap a hρ hc
 | ptr r i j L hρ=>exact .ptr r i j L hρ
 | agg vs cs g hs hg hr=>exact .agg vs cs g hs hg hr
 | tup vs cs g hs hg hr=>exact .tup vs cs g hs hg hr
 | fn f vs cs g hs hg hr=>exact .fn f vs cs g hs hg hr
 | o u x=>exact .o u x
 | und=>exact .und
 | bad u=>exact .bad u
theorem VY (hS:St w F ρ Ow h){el tx:TypeId}{x:V}{xs:List (List T)}(hx:fc P el tx x h=some xs){u:Value}(hu:RV w F ρ u x)(hel:zC P el≠0) :
 (∃ news,Src P (zC P el) tx u xs.length news w∧RTs w F news xs.flatten∧∀ e∈xs,e.length=zC P el):=Tx hS hx (Q0 hu) hel
def Ti (h:Heap)(r:Option Nat):Heap:=match r with|some r=>h.set r .dead|none=>h
theorem Yt (hS:St w F ρ Ow h) (hO:OkO Ow w ρ h) {el:TypeId} {i:TypeInfo} {z:Value} (hi:P.info? el=some i) (hz:i.zero=some z) (hzs:z.cells.size=i.size) (r:Option Nat) (hr0:∀ k,r=some k→∃ b,h[k]? = some b∧b≠.dead)
 {olds news:List Value} {es:List (List T)} (hes:∀ e∈es,e.length=i.size) {need c0:Nat} (hn:es.length=need) (hc0:c0<need) (hr:RTs w F (olds++news) es.flatten) (h1:0<i.size) :
 ∃ ρ',St (w.drew.alloc (.cells ((olds++news).toArray++Builtin.zeroCells z.cells (grownCap w need c0 el - need)) el)) F ρ' Ow (nH Ow.N (Ti h r) (.ts i.size es)) ∧
  Nxt Ow w F ρ (w.drew.alloc (.cells ((olds++news).toArray++Builtin.zeroCells z.cells (grownCap w need c0 el - need)) el)) F ρ' ∧
  RV (w.drew.alloc (.cells ((olds++news).toArray++Builtin.zeroCells z.cells (grownCap w need c0 el - need)) el)) F ρ' (.slice (some ⟨w.heap.size,0,none⟩) need (grownCap w need c0 el)) (.sl (nI Ow.N h) 0 need none):=by
 obtain⟨hS1,hN1⟩:=kX hS;have hS2:St w.drew F ρ Ow (Ti h r):=by
  cases r with
  | none=>exact hS1
  | some r=>exact fN hS1 r
 have hlen:nI Ow.N (Ti h r)=nI Ow.N h:=by cases r<;>cases Ow.N<;>simp[nI,Ti]
 have hO2:OkO Ow w.drew ρ (Ti h r):=by
  cases r with
  | none=>exact hO.drew
  | some r=>obtain⟨b,h1,h2⟩:=hr0 r rfl;exact (hO.set h1 h2).drew
 have hfl:=zP hr;have hfl':=w9 hes;have hge:=grownCap_ge w need c0 el;have hsize:((olds++news).toArray++Builtin.zeroCells z.cells (grownCap w need c0 el - need)).size=grownCap w need c0 el*i.size:=by
  simp only[Array.size_append,List.size_toArray,size_zeroCells,hzs,hfl,hfl',hn,← Nat.add_mul]
  congr 1
  omega
 have hsz:need*i.size≤grownCap w need c0 el*i.size:=Nat.mul_le_mul_right _ hge;obtain⟨ρ',k1,k2,k3⟩:=aT (w:=w.drew) hS2 hO2 (arr:=(olds++news).toArray++Builtin.zeroCells z.cells (grownCap w need c0 el - need)) (el:=el) (es:=es) (sz:=i.size) hes (by rw[hsize,hn];exact hsz)
  (by
   rw[Array.toList_append,List.take_append_of_le_length (by simp[hfl,hfl'])];rw[List.take_of_length_le (by simp[hfl,hfl'])];exact xS hr fun _ _ x=>hN1.rt x)
 refine⟨ρ',k1,hN1.trans k2,?_⟩;rw[hlen]at k3;have:=RV.sl (w:=w.drew.alloc (.cells ((olds++news).toArray++Builtin.zeroCells z.cells (grownCap w need c0 el - need)) el)) (F:=F) (ρ:=ρ') (nI Ow.N h) 0 need none _ (some ⟨w.heap.size,0,none⟩) (grownCap w need c0 el) k3 (.inl (by simp)) hge (by simp[hn]) (fun _=>by simp[hn];omega)
  (fun k hk=>by cases hk) (fun _=>by simp only[Nat.zero_add];rw[hsize];exact Nat.le_refl _)
 exact this
theorem WK (hS:St w F ρ Ow h) (hO:OkO Ow w ρ h) {r off sz:Nat} {es:List (List T)} {L:Loc} (hb:h[r]? = some (.ts sz es)) (hL:ρ r=some (some L)) (hsz:L.sz=sz) (hrow:xw w L es (RT w F)) (hF:¬ F L.b) (hOw:Ow L.b)
 {len c:Nat} (hoff:off+len=es.length) {xs:List (List T)} {news:List Value} (hnews:RTs w F news xs.flatten) (hxs:∀ e∈xs,e.length=sz) (hc:len+xs.length≤c) (hz:L.o+(off+c)*L.sz≤L.z) :
 ∃ ρ',St (w.setCells L.b (L.o+off*L.sz+len*L.sz) news) F ρ' Ow (nH Ow.N (h.set r .dead) (.ts sz (es.drop off++xs)))∧Nxt Ow w F ρ (w.setCells L.b (L.o+off*L.sz+len*L.sz) news) F ρ' ∧
  RV (w.setCells L.b (L.o+off*L.sz+len*L.sz) news) F ρ' (.slice (some ⟨L.b,L.o+off*L.sz,none⟩) (len+xs.length) c) (.sl (nI Ow.N h) 0 (len+xs.length) none)∧w.there L.b (L.o+off*L.sz+len*L.sz) news.length:=by
 subst hsz;have hrow':=hrow;obtain⟨hn,hl,cc,el',fr,hh,hs,hf,hzz,hcc⟩:=hrow;have hfl:=zP hnews;have hfl':=w9 hxs;have hmul:(off+(len+xs.length))*L.sz≤(off+c)*L.sz:=Nat.mul_le_mul_right _ (by omega);have e1:(off+(len+xs.length))*L.sz=off*L.sz+(len*L.sz+xs.length*L.sz):=by rw[Nat.add_mul,Nat.add_mul]
 obtain⟨c',k1,k2,k3⟩:=xc news L.b (L.o+off*L.sz+len*L.sz) w cc el' fr hh (by omega);have hS1:=fN hS r;have hN:=nt hS hF hOw (L.o+off*L.sz+len*L.sz) news;have hO1:OkO Ow w ρ (h.set r .dead):=hO.set hb (by simp);have hnI:nI Ow.N (h.set r .dead)=nI Ow.N h:=by cases Ow.N<;>simp[nI]
 have hN':Nxt Ow w F ρ (w.setCells L.b (L.o+off*L.sz+len*L.sz) news) F (fun r'=>if r'=nI Ow.N h then some (some ⟨L.b,L.o+off*L.sz,L.sz,len+xs.length,L.z⟩) else ρ r') :=
  ⟨hN.os,hN.tape,hN.output,hN.size,hN.keep,hN.agree,hN.grow,hN.new,(hO.new hS).1,(hO.new hS).2⟩
 have hrh:r<h.length:=(List.getElem?_eq_some_iff.1 hb).1;refine⟨_,hS.next hN' (fun r' hr'=>hO.out hS (h0:=h.set r .dead) (by simp) hr') (fun b hb=>by rw[setCells_size];exact hS.fsz b hb) (fun r' b' hr'=>?_)
  (hS.owned hN' (fun b' _ hF' _ hne=>⟨x5 _ _ _ _ _ fun e=>hne r _ L hb rfl hL e.symm,hF'⟩) (fun r' i j x ho=>?_) fun r' b' L' hr' hw hL'=>?_),hN',?_,r7 hh hf (by omega)⟩
 rotate_left
 · have ho':oAt h r' i j x:=q9 (by rintro _ _ ⟨⟩) (aU (uM hO1.lt) (show noO (.ts L.sz (es.drop off++xs)) from trivial) ho).2;refine⟨ho',fun L' u hL' hu=>v7 (x5 _ _ _ _ _ fun e=>?_) hu⟩;obtain⟨sz1,es1,cs1,q1,_⟩:=ho';have:=hS.inj r' r _ _ L' L q1 hb rfl rfl hL' hL e;subst this;rw[hb]at q1;cases q1
 · rw[uM hO1.lt,hnI]at hr'
   split at hr'
   · rename_i he;subst he;simp at hL';subst hL';exact .inr ⟨r,_,L,hb,rfl,hL,rfl⟩
   · exact .inr (hS.same hN'.ext (wm hr' hw).2 hw hL')
 rotate_left
 · rw[uM hO1.lt,hnI]at hr'
   split at hr'
   rotate_left
   · rw[List.getElem?_set]at hr'
     split at hr'
     · rename_i e;subst e
       cases hr';exact .inr ⟨trivial,fun L' _ hw=>by simp[writes]at hw⟩
     · rename_i hne;refine .inl ⟨hr',fun L' hL' hw=>⟨x5 _ _ _ _ _ fun e=>hne (hS.inj r r' _ b' L L' hb hr' rfl hw hL hL' e.symm),((hS.blk r' b' hr').vX hw hL').1⟩⟩
   · rename_i he;subst he
     cases hr';refine .inr ⟨.inl ⟨⟨L.b,L.o+off*L.sz,L.sz,len+xs.length,L.z⟩,by simp,rfl,⟨by simp;omega,fun e he=>?_,c',el',fr,k1,by simpa using k2.trans hs,fun k hk=>hf k (by omega),by simp only[Nat.add_mul];omega,fun i j cs x hi hj=>?_⟩,hF,hOw⟩,fun L1 hL1 hw r2 b2 L2 hne hr2 hw2 hL2=>?_⟩
     · rcases List.mem_append.1 he with he|he
       · exact hl e (List.mem_of_mem_drop he)
       · exact hxs e he
     · simp only;rw[k3]
       by_cases hil:i<len
       · rw[List.getElem?_append_left (by simp;omega),List.getElem?_drop]at hi;have hjl:j<L.sz:=by
          have:=(List.getElem?_eq_some_iff.1 hj).1
          rwa [hl cs (List.mem_of_getElem? hi)]at this
         have:(i+1)*L.sz≤len*L.sz:=Nat.mul_le_mul_right _ (by omega);rw[Nat.add_mul]at this;rw[if_neg (by omega)];obtain⟨u,hu,hru⟩:=hcc _ _ _ _ hi hj;refine⟨u,?_,hN.rt hru⟩;rw[← hu]
         congr 1
         rw[Nat.add_mul];omega
       · rw[List.getElem?_append_right (by simp;omega)]at hi;have hi':xs[i - len]? = some cs:=by rw[← hi];congr 1;simp;omega
         have hjl:j<L.sz:=by
          have:=(List.getElem?_eq_some_iff.1 hj).1
          rwa [hxs cs (List.mem_of_getElem? hi')]at this
         have hil':=(List.getElem?_eq_some_iff.1 hi').1;have a1:(i - len+1)*L.sz≤xs.length*L.sz:=Nat.mul_le_mul_right _ (by omega);have a2:i*L.sz=len*L.sz+(i - len)*L.sz:=by rw[← Nat.add_mul];congr 1;omega
         rw[Nat.add_mul]at a1;rw[if_pos (by omega)];obtain⟨u,hu,hru⟩:=yh hnews _ _ (flat_get hxs hi' hj);refine⟨u,?_,hN.rt hru⟩;rw[← hu]
         congr 1
         omega
     · simp at hL1;subst hL1;simp only[hne,if_false]at hL2;rw[uM hO1.lt,hnI,if_neg hne,List.getElem?_set]at hr2
       split at hr2
       · rename_i e;subst e
         cases hr2;simp[writes]at hw2
       · rename_i hne2;exact fun e=>hne2 (hS.inj r r2 _ b2 L L2 hb hr2 rfl hw2 hL hL2 e.symm)
 · refine .sl _ _ _ _ ⟨L.b,L.o+off*L.sz,L.sz,len+xs.length,L.z⟩ _ _ (by simp) (.inl (by simp)) hc (by simp) (fun _=>by simp;omega) (fun k hk=>by cases hk) (fun _=>?_);simp only[Nat.zero_add];rw[Nat.add_mul]at hz;omega
end Go.Proofs.YtefkoljdebekdaaGreatDoor.E
/- The evaluator's operations are those of the machine: one by one, but for calls. Conditions: those of each lemma. -/
namespace Go.Proofs.YtefkoljdebekdaaGreatDoor.E
variable {P:Program} {w:World} {F:Nat→Prop} {ρ:y9} {Ow:Own} {h:Heap}
def xx (P:Program)(w:World)(F:Nat→Prop)(ρ:y9)(Ow:Own)(s:Sem Value)(v:V)(h':Heap):Prop :=
 ∃ w' F' ρ' u,s.run P w=.ok u w'∧RV w' F' ρ' u v∧St w' F' ρ' Ow h'∧Nxt Ow w F ρ w' F' ρ'
theorem xx.same {s:Sem Value}{u:Value}{v:V}(hS:St w F ρ Ow h)(hr:s.run P w=.ok u w)(hv:RV w F ρ u v):xx P w F ρ Ow s v h:=⟨w,F,ρ,u,hr,hv,hS,Nxt.refl _ _ _ _⟩
theorem V1 {op:BinOp}{ty:TypeId}{k:IntKind}{x y:Int}{n:T}(hs:z6 op=false)(hn:vY op k x y=some n):∃ u,(binOp op ty (.int k x) (.int k y)).run P w=.ok u w∧RT w F u n:=by
 cases op with
 | add=>cases hn;exact⟨.int k (k.wrap (x+y)),by simp[binOp,Op.intArith],.int _ _⟩
 | sub=>cases hn;exact⟨.int k (k.wrap (x - y)),by simp[binOp,Op.intArith],.int _ _⟩
 | mul=>cases hn;exact⟨.int k (k.wrap (x*y)),by simp[binOp,Op.intArith],.int _ _⟩
 | quo =>
  simp only[vY]at hn
  split at hn
  · cases hn
  · rename_i hy;cases hn;exact⟨.int k (k.wrap (x.tdiv y)),by simp[binOp,Op.intDiv,hy],.int _ _⟩
 | rem =>
  simp only[vY]at hn
  split at hn
  · cases hn
  · rename_i hy;cases hn;exact⟨.int k (x.tmod y),by simp[binOp,Op.intDiv,hy],.int _ _⟩
 | and=>cases hn;exact⟨.int k _,by simp[binOp,Op.intBits],.int _ _⟩
 | or=>cases hn;exact⟨.int k _,by simp[binOp,Op.intBits],.int _ _⟩
 | xor=>cases hn;exact⟨.int k _,by simp[binOp,Op.intBits],.int _ _⟩
 | andNot=>cases hn;exact⟨.int k _,by simp[binOp,Op.intBits],.int _ _⟩
 | shl=>cases hs
 | shr=>cases hs
 | eql=>cases hn;exact⟨.bool (x==y),by simp[binOp,Op.intCmp],.bool _⟩
 | neq=>cases hn;exact⟨.bool (x != y),by simp[binOp,Op.intCmp],.bool _⟩
 | lss=>cases hn;exact⟨.bool (decide (x<y)),by simp[binOp,Op.intCmp],.bool _⟩
 | leq=>cases hn;exact⟨.bool (decide (x≤y)),by simp[binOp,Op.intCmp],.bool _⟩
 | gtr=>cases hn;exact⟨.bool (decide (x > y)),by simp[binOp,Op.intCmp],.bool _⟩
 | geq=>cases hn;exact⟨.bool (decide (x≥y)),by simp[binOp,Op.intCmp],.bool _⟩
theorem ax {op:BinOp}{ty:TypeId}{k k':IntKind}{x y:Int}{n:Int}(hs:z6 op=true)(hn:jA op k x y=some n):(binOp op ty (.int k x) (.int k' y)).run P w=.ok (.int k n) w:=by
 unfold jA at hn
 split at hn
 · cases hn
 · rename_i hy
   cases op<;>simp[z6]at hs
   · simp at hn;subst hn;simp[binOp,Op.shift,hy]
   · simp at hn;subst hn;simp[binOp,Op.shift,hy]
theorem WH {op:BinOp}{ty:TypeId}{s s':ByteArray}{n:T}(hn:qJ op s.data.toList s'.data.toList=some n):∃ u,(binOp op ty (.string s) (.string s')).run P w=.ok u w∧RT w F u n:=by
 cases op with
 | add =>
  simp only[qJ]at hn
  split at hn
  · rename_i hl
    cases hn;have hl':¬ (((s.size+s'.size:Nat):Int) > IntKind.i64.max):=by
     have e1:s.data.toList.length=s.size:=by simp
     have e2:s'.data.toList.length=s'.size:=by simp
     have:IntKind.i64.max=9223372036854775807:=rfl;omega
    exact⟨.string (s++s'),by simp only[binOp,Op.stringOp,hl',if_false,Sem.run_pure],.str _ _ (by simp)⟩
  · cases hn
 | eql=>cases hn;exact⟨.bool _,by simp only[binOp,Op.stringOp,Sem.run_pure,ByteArray.toList_eq],.bool _⟩
 | neq=>cases hn;exact⟨.bool _,by simp only[binOp,Op.stringOp,Sem.run_pure,ByteArray.toList_eq],.bool _⟩
 | lss=>cases hn;exact⟨.bool _,by simp only[binOp,Op.stringOp,Sem.run_pure,ByteArray.toList_eq],.bool _⟩
 | leq=>cases hn;exact⟨.bool _,by simp only[binOp,Op.stringOp,Sem.run_pure,ByteArray.toList_eq],.bool _⟩
 | gtr=>cases hn;exact⟨.bool _,by simp only[binOp,Op.stringOp,Sem.run_pure,ByteArray.toList_eq],.bool _⟩
 | geq=>cases hn;exact⟨.bool _,by simp only[binOp,Op.stringOp,Sem.run_pure,ByteArray.toList_eq],.bool _⟩
 | _=>cases hn
theorem Yl {ty:TypeId}(h:xH P ty=true):∃ e,P.underlying ty=some (.slice e):=by
 unfold xH at h
 split at h
 · rename_i e he;exact⟨e,he⟩
 · cases h
theorem tB (w:World)(d:Nat)(ty:TypeId)(a:Option Addr)(n c:Nat){e:TypeId}(hu:P.underlying ty=some (.slice e)):(Op.equalIn (d+1) ty (.slice a n c) (.slice none 0 0)).run P w=.ok a.isNone w:=by
 cases a<;>simp[Op.equalIn,zF hu]
theorem sx (w:World)(ty:TypeId){a:Option Addr}{n c:Nat}{e:TypeId}(hu:P.underlying ty=some (.slice e)):(Op.equal ty (.slice a n c) (.slice none 0 0)).run P w=.ok a.isNone w:=tB w 9999 ty a n c hu
theorem qC (w:World)(ty:TypeId){e:TypeId}(hu:P.underlying ty=some (.slice e)):(Op.equal ty (.slice none 0 0) (.slice none 0 0)).run P w=.ok true w:=tB w 9999 ty none 0 0 hu
def X2 (u:Value)(s:List UInt8):Prop:=∃ b:ByteArray,u=.string b∧b.data.toList=s
theorem kM:∀ {vs:List V} {us:List Value} {x:List (List UInt8)},oW vs=some x→RVs w F ρ us vs→vg X2 us x
 | [],us,x,h,hu=>by cases h;cases hu;exact .nil
 | v::vs,us,x,h,hu=>by
  unfold oW at h
  split at h
  · split at h
    · rename_i l hl
      cases h
      cases hu with
      | cons k1 k2 =>
      cases k1 with
      | t _ _ k1 =>
      cases k1 with
      | str b _ e=>exact .cons ⟨b,rfl,e⟩ (kM hl k2)
    · cases h
  · cases h
theorem tC (w:World)(d:Nat)(us us2:Array Value):∀ (fs:List Field) (i:Nat) (x y:List (List UInt8)),Ra P i fs=true→vg X2 (us.toList.drop i) x→vg X2 (us2.toList.drop i) y→x.length=fs.length→y.length=fs.length →
 (Op.eqFields (d+1) us us2 fs).run P w=.ok (x==y) w
 | [],i,x,y,_,_,_,hx,hy=>by
  obtain rfl:=List.eq_nil_of_length_eq_zero (by simpa using hx);obtain rfl:=List.eq_nil_of_length_eq_zero (by simpa using hy);rfl
 | f::fs,i,[],y,_,_,_,hx,_=>by simp at hx
 | f::fs,i,s::x,[],_,_,_,_,hy=>by simp at hy
 | f :: fs, i, s :: x, s' :: y, hf, h1, h2, hx, hy => by
  simp only[Ra,Bool.and_eq_true,bne_iff_ne,ne_eq,beq_iff_eq]at hf;obtain⟨⟨⟨hn,ho⟩,ht⟩,hr⟩:=hf;have get:∀ {a:Array Value} {z:List UInt8} {zs:List (List UInt8)},vg X2 (a.toList.drop i) (z::zs)→∃ b:ByteArray,a[f.offset]? = some (.string b)∧b.data.toList=z∧vg X2 (a.toList.drop (i+1)) zs:=fun {a z zs} h=>by
   generalize hl:a.toList.drop i=l at h
   cases h with
   | cons k1 k2 =>
    rename_i u us';obtain⟨b,rfl,e⟩:=k1;refine⟨b,?_,e,?_⟩
    · have:(a.toList.drop i)[0]? = some (.string b):=by rw[hl];rfl
      rw[ho];simpa using this
    · have e2:a.toList.drop (i+1)=us':=by rw[← List.drop_drop,hl];rfl
      rw[e2];exact k2
  obtain⟨b,g1,g2,g3⟩:=get h1;obtain⟨b',g4,g5,g6⟩:=get h2;have hu:P.underlying f.type=some .string:=by
   unfold isStr at ht
   split at ht
   · assumption
   · cases ht
  have hp:∀ (a:Array Value) (b:ByteArray),a[f.offset]? = some (.string b)→(part f.type a f.offset).run P w=.ok (.string b) w:=fun a b hb=>by
   simp[part,isAgg,zF hu,hb]
  have ih:=tC w d us us2 fs (i+1) x y hr g3 g6 (by simpa using hx) (by simpa using hy);have he:(b.toList==b'.toList)=(s==s'):=by rw[ByteArray.toList_eq,ByteArray.toList_eq,g2,g5]
  simp only[Op.eqFields,ne_eq,hn,not_false_eq_true,if_true,Sem.run_bind,hp us b g1,hp us2 b' g4,Result.andThen_ok,run_equalIn_string w d f.type b b' hu,he,Sem.run_ite];rw[List.cons_beq_cons]
  cases (s==s') with
  | true=>simpa using ih
  | false=>simp
theorem Ss (w:World){ty:TypeId}(ht:jG P ty=true){us us2:Array Value}{x y:List (List UInt8)}(h1:vg X2 us.toList x)(h2:vg X2 us2.toList y)(hx:x.length=nFs P ty)(hy:y.length=nFs P ty) :
 (Op.equalIn 10000 ty (.agg us) (.agg us2)).run P w=.ok (x==y) w∧P.eqGuardType P.depth ty=false:=by
 unfold jG at ht;unfold nFs at hx hy
 split at ht
 · rename_i fs hu;rw[hu]at hx hy;simp only[Bool.and_eq_true,Bool.not_eq_true']at ht;obtain⟨⟨k1,k2⟩,k3⟩:=ht;have hfs:P.fieldsOf ty=fs:=by simp[Program.fieldsOf,hu]
   refine⟨?_,k2⟩;rw[run_equalIn_struct w 9999 ty us us2 (by rw[hfs];exact hu) k1,hfs];exact tC w 9998 us us2 fs.toList 0 x y k3 h1 h2 hx hy
 · cases ht
inductive Ats:List Bool→List Value→List Value→Bool→Prop
 | nil:Ats [] [] [] true
 | str {ks:List Bool} {us us2:List Value} {t:Bool} (b b':ByteArray) (h:Ats ks us us2 t):Ats (true::ks) (.string b::us) (.string b'::us2) ((b.data.toList==b'.data.toList)&&t)
 | int {ks:List Bool} {us us2:List Value} {t:Bool} (k:IntKind) (x x':Int) (h:Ats ks us us2 t):Ats (false::ks) (.int k x::us) (.int k x'::us2) ((x==x')&&t)
theorem np:∀ {ks:List Bool} {a b:List V} {us us2:List Value} {t:Bool},vh ks a b=some t→RVs w F ρ us a→RVs w F ρ us2 b→Ats ks us us2 t
 | [],[],[],us,us2,t,h,h1,h2=>by
  simp only[vh,Option.some.injEq]at h;subst h
  cases h1;cases h2;exact .nil
 | true :: ks, .t (.str s) :: r, .t (.str s') :: r', us, us2, t, h, h1, h2 => by
  simp only[vh]at h
  cases hq:vh ks r r' with
  | none=>simp[hq]at h
  | some q =>
   simp only[hq,Option.some.injEq]at h;subst h
   cases h1 with
   | cons k1 k2 =>
   cases h2 with
   | cons j1 j2 =>
   cases k1 with
   | t _ _ k1 =>
   cases j1 with
   | t _ _ j1 =>
   cases k1 with
   | str b _ e =>
   cases j1 with
   | str b' _ e' =>
   subst e e';exact .str b b' (np hq k2 j2)
 | false::ks,.t (.int k x)::r,.t (.int k' x')::r',us,us2,t,h,h1,h2=>by
  simp only[vh]at h
  by_cases hk:k=k'
  · subst hk;rw[if_pos rfl]at h
    cases hq:vh ks r r' with
    | none=>simp[hq]at h
    | some q =>
     simp only[hq,Option.some.injEq]at h;subst h
     cases h1 with
     | cons k1 k2 =>
     cases h2 with
     | cons j1 j2 =>
     cases k1 with
     | t _ _ k1 =>
     cases j1 with
     | t _ _ j1 =>
     cases k1
     cases j1;exact .int k x x' (np hq k2 j2)
  · rw[if_neg hk]at h;cases h
theorem na (w:World)(d:Nat)(ty:TypeId)(k:IntKind)(a b:Int){k0:IntKind}(hu:P.underlying ty=some (.int k0)):(Op.equalIn (d+1) ty (.int k a) (.int k b)).run P w=.ok (a==b) w:=by
 simp[Op.equalIn,zF hu]
theorem lv {α:Type}{a:Array α}{i:Nat}{u:α}{us:List α}(h:a.toList.drop i=u::us):a[i]? = some u∧a.toList.drop (i+1)=us:=by
 constructor
 · have:(a.toList.drop i)[0]? = some u:=by rw[h];rfl
   simpa using this
 · rw[← List.drop_drop,h];rfl
theorem u7 (w : World) (d : Nat) (us us2 : Array Value) : ∀ (fs : List Field) (i : Nat) (ks : List Bool) (t : Bool), kds P i fs = some ks → Ats ks (us.toList.drop i) (us2.toList.drop i) t → (Op.eqFields (d + 1) us us2 fs).run P w = .ok t w
 | [],i,ks,t,hk,h=>by
  simp only[kds,Option.some.injEq]at hk;subst hk;generalize us.toList.drop i=a at h;generalize us2.toList.drop i=b at h
  cases h;rfl
 | f :: fs, i, ks, t, hk, h => by
  simp only[kds]at hk
  split at hk
  · rename_i hno;simp only[Bool.and_eq_true,bne_iff_ne,ne_eq,beq_iff_eq]at hno;obtain⟨hn,ho⟩:=hno
    split at hk
    · rename_i hs;have hu:P.underlying f.type=some .string:=by
       unfold isStr at hs
       split at hs
       · assumption
       · cases hs
      split at hk
      · rename_i l hl
        cases hk;generalize e1:us.toList.drop i=a at h;generalize e2:us2.toList.drop i=b at h
        cases h with
        | str b1 b2 h =>
         obtain⟨g1,g2⟩:=lv e1;obtain⟨g3,g4⟩:=lv e2;have ih:=u7 w d us us2 fs (i+1) l _ hl (by rw[g2,g4];exact h);have hp:∀ (a:Array Value) (b:ByteArray),a[f.offset]? = some (.string b)→(part f.type a f.offset).run P w=.ok (.string b) w:=fun a b hb=>by
          simp[part,isAgg,zF hu,hb]
         have he:(b1.toList==b2.toList)=(b1.data.toList==b2.data.toList):=by rw[ByteArray.toList_eq,ByteArray.toList_eq]
         simp only[Op.eqFields,ne_eq,hn,not_false_eq_true,if_true,Sem.run_bind,hp us b1 (by rw[ho];exact g1),hp us2 b2 (by rw[ho];exact g3),Result.andThen_ok,run_equalIn_string w d f.type b1 b2 hu,he,Sem.run_ite]
         cases (b1.data.toList==b2.data.toList) with
         | true=>simpa using ih
         | false=>simp
      · cases hk
    · split at hk
      · rename_i hi;obtain⟨k0,hk0⟩:=Option.isSome_iff_exists.1 hi;have hu:P.underlying f.type=some (.int k0):=by
         unfold isInt at hk0
         split at hk0
         · cases hk0;assumption
         · cases hk0
        split at hk
        · rename_i l hl
          cases hk;generalize e1:us.toList.drop i=a at h;generalize e2:us2.toList.drop i=b at h
          cases h with
          | int k x x' h =>
           obtain⟨g1,g2⟩:=lv e1;obtain⟨g3,g4⟩:=lv e2;have ih:=u7 w d us us2 fs (i+1) l _ hl (by rw[g2,g4];exact h);have hp:∀ (a:Array Value) (x:Int),a[f.offset]? = some (.int k x)→(part f.type a f.offset).run P w=.ok (.int k x) w:=fun a x hb=>by
            simp[part,isAgg,zF hu,hb]
           simp only[Op.eqFields,ne_eq,hn,not_false_eq_true,if_true,Sem.run_bind,hp us x (by rw[ho];exact g1),hp us2 x' (by rw[ho];exact g3),Result.andThen_ok,na w d f.type k x x' hu,Sem.run_ite]
           cases (x==x') with
           | true=>simpa using ih
           | false=>simp
        · cases hk
      · cases hk
  · cases hk
theorem Qk (w:World){ty:TypeId}{ks:List Bool}(ht:Th P ty=some ks){us us2:Array Value}{t:Bool}(h:Ats ks us.toList us2.toList t):(Op.equalIn 10000 ty (.agg us) (.agg us2)).run P w=.ok t w∧P.eqGuardType P.depth ty=false:=by
 unfold Th at ht
 split at ht
 · rename_i fs hu
   split at ht
   · rename_i hc;simp only[Bool.and_eq_true,Bool.not_eq_true']at hc;have hfs:P.fieldsOf ty=fs:=by simp[Program.fieldsOf,hu]
     refine⟨?_,hc.2⟩;rw[run_equalIn_struct w 9999 ty us us2 (by rw[hfs];exact hu) hc.1,hfs];exact u7 w 9998 us us2 fs.toList 0 ks t ht (by simpa using h)
   · cases ht
 · cases ht
theorem QO (hS:St w F ρ Ow h){op:BinOp}{ty:TypeId}(x y:Operand){u1 u2:Value}{v1 v2 v:V}(hb:bin P op ty v1 v2=some v)(h1:RV w F ρ u1 v1)(h2:RV w F ρ u2 v2) :
 xx P w F ρ Ow (do eqGuard op ty x y u1 u2;binOp op ty u1 u2) v h:=by
 unfold bin at hb
 split at hb
 · rename_i k m k' m'
   cases h1 with
   | t _ _ h1 =>
   cases h1
   cases h2 with
   | t _ _ h2 =>
   cases h2;have hg:(eqGuard op ty x y (.int k m) (.int k' m')).run P w=.ok () w:=by unfold eqGuard;split<;>rfl
   split at hb
   · rename_i hs;simp only[Option.map_eq_some_iff]at hb;obtain⟨n,hn,rfl⟩:=hb;exact xx.same hS (u:=.int k n) (by rw[Sem.run_bind,hg,Result.andThen_ok,ax hs hn]) (.t _ _ (.int _ _))
   · rename_i hs
     split at hb
     · rename_i hk;subst hk;simp only[Option.map_eq_some_iff]at hb;obtain⟨n,hn,rfl⟩:=hb;obtain⟨u,e1,e2⟩:=V1 (P:=P) (w:=w) (F:=F) (ty:=ty) (by simpa using hs) hn;exact xx.same hS (u:=u) (by rw[Sem.run_bind,hg,Result.andThen_ok,e1]) (.t _ _ e2)
     · cases hb
 · rename_i l l'
   cases h1 with
   | t _ _ h1 =>
   cases h1 with
   | str s _ e1 =>
   cases h2 with
   | t _ _ h2 =>
   cases h2 with
   | str s' _ e2 =>
   subst e1 e2;have hg:(eqGuard op ty x y (.string s) (.string s')).run P w=.ok () w:=by unfold eqGuard;split<;>rfl
   simp only[Option.map_eq_some_iff]at hb;obtain⟨n,hn,rfl⟩:=hb;obtain⟨u,e1,e2⟩:=WH (P:=P) (w:=w) (F:=F) (ty:=ty) hn;exact xx.same hS (u:=u) (by rw[Sem.run_bind,hg,Result.andThen_ok,e1]) (.t _ _ e2)
 · rename_i b b'
   split at hb
   · rename_i ht;have hu:P.underlying ty=some .bool:=by
      unfold zZ at ht;split at ht
      · assumption
      · simp at ht
     cases h1 with
     | t _ _ h1 =>
     cases h1
     cases h2 with
     | t _ _ h2 =>
     cases h2;have hg:(eqGuard op ty x y (.bool b) (.bool b')).run P w=.ok () w:=by unfold eqGuard;split<;>rfl
     split at hb
     · cases hb;exact xx.same hS (u:=.bool (b==b')) (by rw[Sem.run_bind,hg];simp[binOp,run_equal_bool w ty b b' hu]) (.t _ _ (.bool _))
     · cases hb;exact xx.same hS (u:=.bool !(b==b')) (by rw[Sem.run_bind,hg];simp[binOp,run_equal_bool w ty b b' hu]) (.t _ _ (.bool _))
     · cases hb
   · cases hb
 · split at hb
   · rename_i ht;obtain⟨e,hu⟩:=Yl ht
     cases h1 with
     | t _ _ h1 =>
     cases h1 with
     | nlist a n c sz es b hb' h1 =>
     cases h2 with
     | nil sz =>
     have hg:(eqGuard op ty x y (.slice a n c) (.slice none 0 0)).run P w=.ok () w:=by unfold eqGuard;split<;>rfl
     unfold ze at hb
     split at hb
     · cases hb;subst hb';exact xx.same hS (u:=.bool a.isNone) (by rw[Sem.run_bind,hg];simp[binOp,sx w ty hu]) (.t _ _ (.bool _))
     · cases hb;subst hb';exact xx.same hS (u:=.bool !a.isNone) (by rw[Sem.run_bind,hg];simp[binOp,sx w ty hu]) (.t _ _ (.bool _))
     · cases hb
   · cases hb
 · split at hb
   · rename_i ht;obtain⟨e,hu⟩:=Yl ht
     cases h1 with
     | nil sz1 =>
     cases h2 with
     | nil sz2 =>
     have hg:(eqGuard op ty x y (.slice none 0 0) (.slice none 0 0)).run P w=.ok () w:=by unfold eqGuard;split<;>rfl
     unfold ze at hb
     split at hb
     · cases hb;exact xx.same hS (u:=.bool true) (by rw[Sem.run_bind,hg];simp[binOp,qC w ty hu]) (.t _ _ (.bool _))
     · cases hb;exact xx.same hS (u:=.bool false) (by rw[Sem.run_bind,hg];simp[binOp,qC w ty hu]) (.t _ _ (.bool _))
     · cases hb
   · cases hb
 · split at hb
   · rename_i ht;unfold Xq at hb
     split at hb
     · rename_i s1 s2 e1 e2
       split at hb
       · rename_i hl
         cases h1 with
         | agg us cs g hs hg0 hr =>
         cases h2 with
         | agg us2 cs2 g2 hs2 hg2 hr2 =>
         obtain⟨k1,k2⟩:=Ss (P:=P) w ht (kM e1 (xp hs hg0 hr)) (kM e2 (xp hs2 hg2 hr2)) hl.1 hl.2;have hg:=run_eqGuard_agg (P:=P) w op ty x y us us2 k2;unfold ze at hb
         split at hb
         · cases hb;exact xx.same hS (u:=.bool (s1==s2)) (by rw[Sem.run_bind,hg,Result.andThen_ok,run_eql_struct,k1];rfl) (.t _ _ (.bool _))
         · cases hb;exact xx.same hS (u:=.bool !(s1==s2)) (by rw[Sem.run_bind,hg,Result.andThen_ok,run_neq_struct,k1];rfl) (.t _ _ (.bool _))
         · cases hb
       · cases hb
     · cases hb
   · unfold mf at hb
     split at hb
     · rename_i l hkd
       split at hb
       · rename_i t ht
         cases h1 with
         | agg us cs g hs hg0 hr =>
         cases h2 with
         | agg us2 cs2 g2 hs2 hg2 hr2 =>
         obtain⟨k1,k2⟩:=Qk (P:=P) w hkd (np ht (xp hs hg0 hr) (xp hs2 hg2 hr2));have hg:=run_eqGuard_agg (P:=P) w op ty x y us us2 k2;unfold ze at hb
         split at hb
         · cases hb;exact xx.same hS (u:=.bool t) (by rw[Sem.run_bind,hg,Result.andThen_ok,run_eql_struct,k1];rfl) (.t _ _ (.bool _))
         · cases hb;exact xx.same hS (u:=.bool !t) (by rw[Sem.run_bind,hg,Result.andThen_ok,run_neq_struct,k1];rfl) (.t _ _ (.bool _))
         · cases hb
       · cases hb
     · cases hb
 · cases hb
theorem Ym {ty:TypeId}(h:isIf P ty=true):∃ e,P.underlying ty=some (.interface e):=by
 unfold isIf at h
 split at h
 · rename_i e he;exact⟨e,he⟩
 · cases h
theorem mT (w:World)(d:Nat)(ty t:TypeId)(z:Value){e:Array (String×TypeId)}(hu:P.underlying ty=some (.interface e)):(Op.equalIn (d+1) ty (.iface t z) .nilIface).run P w=.ok false w:=by
 simp[Op.equalIn,zF hu]
theorem nc (w:World)(d:Nat)(ty:TypeId){e:Array (String×TypeId)}(hu:P.underlying ty=some (.interface e)):(Op.equalIn (d+1) ty .nilIface .nilIface).run P w=.ok true w:=by
 simp[Op.equalIn,zF hu]
theorem pH (w:World)(ty t:TypeId)(z:Value){e:Array (String×TypeId)}(hu:P.underlying ty=some (.interface e)):(Op.equal ty (.iface t z) .nilIface).run P w=.ok false w:=mT w 9999 ty t z hu
theorem qD (w:World)(ty:TypeId){e:Array (String×TypeId)}(hu:P.underlying ty=some (.interface e)):(Op.equal ty .nilIface .nilIface).run P w=.ok true w:=nc w 9999 ty hu
theorem SR (hS:St w F ρ Ow h){op:BinOp}{ty:TypeId}(x y:Operand){u1 u2:Value}{v1 v2 v:V}(hb:zm P op ty y v1 v2=some v)(h1:RV w F ρ u1 v1)(h2:RV w F ρ u2 v2) :
 xx P w F ρ Ow (do eqGuard op ty x y u1 u2;binOp op ty u1 u2) v h:=by
 unfold zm at hb
 split at hb
 · split at hb
   · rename_i ht;obtain⟨e,hu⟩:=Ym ht
     cases h1 with
     | t _ _ h1 =>
     cases h1 with
     | nni t z =>
     cases h2 with
     | t _ _ h2 =>
     cases h2;have hg:(eqGuard op ty x y (.iface t z) .nilIface).run P w=.ok () w:=by unfold eqGuard;split<;>rfl
     unfold ze at hb
     split at hb
     · cases hb;exact xx.same hS (u:=.bool false) (by rw[Sem.run_bind,hg];simp[binOp,pH w ty t z hu]) (.t _ _ (.bool _))
     · cases hb;exact xx.same hS (u:=.bool true) (by rw[Sem.run_bind,hg];simp[binOp,pH w ty t z hu]) (.t _ _ (.bool _))
     · cases hb
   · cases hb
 · split at hb
   · rename_i ht;simp only[Bool.and_eq_true]at ht;obtain⟨ht,hy⟩:=ht;obtain⟨e,hu⟩:=Ym ht;obtain⟨cv,rfl⟩:∃ cv,y=.const cv:=by cases y<;>first|exact⟨_,rfl⟩|simp[isC]at hy
     cases h1 with
     | t _ _ h1 =>
     cases h1
     cases h2 with
     | t _ _ h2 =>
     cases h2;have hg:(eqGuard op ty x (.const cv) .nilIface .nilIface).run P w=.ok () w:=by cases op<;>cases x<;>rfl
     unfold ze at hb
     split at hb
     · cases hb;exact xx.same hS (u:=.bool true) (by rw[Sem.run_bind,hg];simp[binOp,qD w ty hu]) (.t _ _ (.bool _))
     · cases hb;exact xx.same hS (u:=.bool false) (by rw[Sem.run_bind,hg];simp[binOp,qD w ty hu]) (.t _ _ (.bool _))
     · cases hb
   · cases hb
 · exact QO hS x y hb h1 h2
theorem RZ (hS:St w F ρ Ow h){op:UnOp}{u:Value}{v v':V}(hb:una op v=some v')(h1:RV w F ρ u v):xx P w F ρ Ow (Op.unary op u) v' h:=by
 unfold una at hb
 split at hb
 · cases h1 with
   | t _ _ h1 =>
   cases h1
   split at hb
   · cases hb;exact xx.same hS (u:=.bool _) (by simp[Op.unary]) (.t _ _ (.bool _))
   · cases hb
 · rename_i k n
   cases h1 with
   | t _ _ h1 =>
   cases h1
   split at hb
   · cases hb;exact xx.same hS (u:=.int k _) (by simp[Op.unary,Op.intArith]) (.t _ _ (.int _ _))
   · simp only[Te,Option.map_some]at hb
     cases hb;exact xx.same hS (u:=.int k _) (by simp[Op.unary,Op.intBits]) (.t _ _ (.int _ _))
   · cases hb
 · cases hb
theorem qA {k:IntKind}{n:Int}{y:Nat}{code:BoundsCode}(h0:0≤n)(h1:n≤y):(Instr.sliceBound (.int k n) y code).run P w=.ok n.toNat w:=by
 simp[Instr.sliceBound,asIntOf,h0,h1]
def ZH (w:World)(F:Nat→Prop)(ρ:y9):Option Value→Option V→Prop
 | none,none=>True
 | some u,some v=>RV w F ρ u v
 | _,_=>False
theorem lA {dflt mx n y:Nat}{v:Option V}{u:Option Value}(hb:a7 dflt mx v=some n)(hu:ZH w F ρ u v)(hy:mx≤y)(code:BoundsCode) :
 (u=none∧n=dflt)∨(∃ x,u=some x∧(Instr.sliceBound x y code).run P w=.ok n w∧n≤mx):=by
 unfold a7 at hb
 split at hb
 · cases hb
   cases u with
   | none=>exact .inl ⟨rfl,rfl⟩
   | some x=>exact hu.elim
 · rename_i k m
   split at hb
   · rename_i hm
     cases hb
     cases u with
     | none=>exact hu.elim
     | some x =>
      cases hu with
      | t _ _ hx =>
      cases hx;exact .inr ⟨_,rfl,qA hm.1 (by omega),by omega⟩
   · cases hb
 · cases hb
theorem fU {len cap:Nat}(hlc:len≤cap){lo hi:Option V}{l' h':Nat}(hc:l6 len lo hi=some (l',h')){ulo uhi:Option Value}(hlo:ZH w F ρ ulo lo)(hhi:ZH w F ρ uhi hi)(sl:Bool) :
 (Instr.sliceBounds sl len cap ulo uhi none).run P w=.ok (l',h',cap) w∧l'≤h'∧h'≤len:=by
 unfold l6 at hc
 split at hc
 · rename_i hh he
   split at hc
   · rename_i ll hl
     cases hc;have e1:∀ code,(match uhi with
      | some v=>Instr.sliceBound v cap code
      | none=>pure len).run P w=.ok h' w∧h'≤len:=fun code=>by
      rcases lA (P:=P) he hhi hlc code with⟨rfl,rfl⟩|⟨x,rfl,h1,h2⟩
      · exact⟨rfl,Nat.le_refl _⟩
      · exact⟨h1,h2⟩
     have e2:∀ code,(match ulo with
      | some v=>Instr.sliceBound v h' code
      | none=>pure 0).run P w=.ok l' w∧l'≤h':=fun code=>by
      rcases lA (P:=P) hl hlo (Nat.le_refl _) code with⟨rfl,rfl⟩|⟨x,rfl,h1,h2⟩
      · exact⟨rfl,Nat.zero_le _⟩
      · exact⟨h1,h2⟩
     refine⟨?_,(e2 .sliceB).2,(e1 .sliceB).2⟩;unfold Instr.sliceBounds
     cases uhi<;>cases ulo<;>simp_all
   · cases hc
 · cases hc
end Go.Proofs.YtefkoljdebekdaaGreatDoor.E
/- The evaluator's operations are those of the machine: addresses, cuts, parts. Conditions: those of each lemma. -/
namespace Go.Proofs.YtefkoljdebekdaaGreatDoor.E
variable {P:Program} {w:World} {F:Nat→Prop} {ρ:y9} {Ow:Own} {h:Heap}
theorem xW {ty el:TypeId}(he:yo P ty=some el):P.underlying ty=some (.slice el)∧∃ i,P.info? el=some i:=by
 unfold yo at he
 split at he
 · split at he
   · rename_i hi;cases he;exact⟨by assumption,Option.isSome_iff_exists.1 hi⟩
   · cases he
 · cases he
theorem oo {ty:TypeId}(he:isStr P ty=true):P.underlying ty=some .string:=by
 unfold isStr at he
 split at he
 · assumption
 · cases he
theorem cN {ty:TypeId}{k:IntKind}(he:isInt P ty=some k):P.underlying ty=some (.int k):=by
 unfold isInt at he
 split at he
 · cases he;assumption
 · cases he
theorem Q7 {a:Option Addr}{n c sz:Nat}{es:List (List T)}(hx:RT w F (.slice a n c) (.list sz es)){l hh:Nat}(hl:l≤hh)(hn:hh≤n)(size:Nat)(hsz:sz=size∨es=[]) :
 RT w F (.slice (if c=l then a else a.map (·.add (l*size))) (hh - l) (c - l)) (.list sz ((es.drop l).take (hh - l))):=by
 cases hx with
 | list a n c sz es g hn' hc h0 hz hr =>
  subst hn';refine .list _ _ _ sz _ (fun i j=>g (l+i) j) (by simp;omega) (by omega) (fun hp=>?_) (fun e he=>hz e (List.mem_of_mem_drop (List.mem_of_mem_take he))) fun i j cs x hi hj=>?_
  · have hsz':sz=size:=by
     rcases hsz with h1|h1
     · exact h1
     · subst h1;simp at hn;omega
    subst hsz';obtain⟨b,o,rfl,hb,hcell⟩:=h0 (by omega);refine⟨b,o+l*sz,?_,hb,fun i j hi hj=>?_⟩
    · rw[if_neg (by omega)];simp[Addr.add_mid]
    · have:=hcell (l+i) j (by omega) hj;rw[Nat.add_mul]at this;rw[← this]
      congr 2
      omega
  · rw[List.getElem?_take]at hi
    split at hi
    · rw[List.getElem?_drop]at hi;exact hr _ _ _ _ hi hj
    · cases hi
theorem extract_data (s:ByteArray)(a b:Nat):(s.extract a b).data.toList=(s.data.toList.drop a).take (b - a):=by
 simp[ByteArray.data_extract,Array.toList_extract,List.extract_eq_take_drop]
theorem Qq (hS : St w F ρ Ow h) {ty : TypeId} {x v : V} {lo hi mx : Option V} (hc : cut P ty x lo hi mx h = some v) {u : Value} (hu : RV w F ρ u x) {ulo uhi umx : Option Value}
 (hlo:ZH w F ρ ulo lo) (hhi:ZH w F ρ uhi hi) (hmx:ZH w F ρ umx mx):∃ u',(Instr.sliceAt ty u ulo uhi umx).run P w=.ok u' w∧RV w F ρ u' v:=by
 unfold cut at hc
 split at hc
 · rename_i l
   split at hc
   · rename_i ht;simp only[Bool.and_eq_true,Option.isNone_iff_eq_none]at ht;obtain⟨ht,rfl⟩:=ht;have hty:=oo ht;have:umx=none:=by cases umx with
      | none=>rfl
      | some x=>exact hmx.elim
     subst this
     split at hc
     · rename_i a b hcut
       cases hc
       cases hu with
       | t _ _ hx =>
       cases hx with
       | str s _ hs =>
       subst hs;obtain⟨e1,e2,e3⟩:=fU (P:=P) (cap:=s.size) (by simp) hcut hlo hhi false;simp only[Array.length_toList]at e1;refine⟨.string (s.extract a b),?_,.t _ _ (.str _ _ (extract_data s a b))⟩;have e1':(Instr.sliceBounds false s.size s.size ulo uhi none).run P w=.ok (a,b,s.size) w:=e1;simp[Instr.sliceAt,zF hty,Instr.slice,e1']
     · cases hc
   · cases hc
 · rename_i sz es
   split at hc
   · rename_i el hel;obtain⟨hty,inf,hinfo⟩:=xW hel
     split at hc
     · rename_i ht;simp only[Bool.and_eq_true,Option.isNone_iff_eq_none,Bool.or_eq_true,beq_iff_eq,List.isEmpty_iff]at ht;obtain⟨ht,rfl⟩:=ht;have:umx=none:=by cases umx with
        | none=>rfl
        | some x=>exact hmx.elim
       subst this
       split at hc
       · rename_i a b hcut
         cases hc
         cases hu with
         | t _ _ hx =>
         have hx':=hx
         cases hx with
         | list ad n c sz es g hn' hcc h0 hz hr =>
         subst hn';obtain⟨e1,e2,e3⟩:=fU (P:=P) (cap:=c) hcc hcut hlo hhi true;refine⟨_,?_,.t _ _ (Q7 hx' e2 e3 (zC P el) ht)⟩;simp[Instr.sliceAt,zF hty,Instr.slice,e1,run_sizeOf hinfo]
       · cases hc
     · cases hc
   · cases hc
 · rename_i r off len cap
   split at hc
   · rename_i el hel;obtain⟨hty,inf,hinfo⟩:=xW hel
     split at hc
     · rename_i ht;simp only[beq_iff_eq]at ht
       cases hb:h[r]? with
       | none=>simp[hb]at ht
       | some blk =>
       simp only[hb,Option.bind_some]at ht;have hsz:∀ L,ρ r=some (some L)→L.sz=zC P el:=fun L hL=>by
        have:=hS.blk r blk hb
        cases blk with
        | dead=>simp[xt]at ht
        | ts|vs|fz =>
         simp only[xt,Option.some.injEq]at ht;rcases this with⟨L',h1,h2,_⟩|⟨h1,_⟩
         · rw[hL]at h1;cases h1;exact h2.trans ht
         · rw[hL]at h1;cases h1
       -- the cut, once its bounds are known
       have main:∀ (a b m:Nat) (cap':Option Nat),a≤b→b≤len→b≤m→(∀ c,u=.slice (some ⟨0,0,none⟩) len c∨True→True)→∀ (ad:Option Addr) (c:Nat),u=.slice ad len c→(mx=none→m=c∧cap'=cap.map (· - a))→(mx≠none→m≤len∧cap'=some (m - a))→len≤c →
        RV w F ρ (.slice (if m=a then ad else ad.map (·.add (a*zC P el))) (b - a) (m - a)) (.sl r (off+a) (b - a) cap'):=by
        intro a b m cap' hab hbl hbm _ ad c hu' hm1 hm2 hlc;subst hu'
        cases hu with
        | slP r cap a' hρ hcp =>
         have ha0:a=0:=by omega
         have hb0:b=0:=by omega
         subst ha0 hb0
         by_cases hmx0:mx=none
         · obtain⟨rfl,rfl⟩:=hm1 hmx0;refine .slP r _ _ hρ ?_;rcases hcp with rfl|rfl<;>simp
         · obtain⟨h1,rfl⟩:=hm2 hmx0;have:m=0:=by omega
           subst this;exact .slP r _ _ hρ (.inr rfl)
        | sl r off len cap L a' c hρ ha hl hn hc0 hc1 hz =>
         have hLs:=hsz L hρ;have hmc:m≤c:=by
          by_cases hmx0:mx=none
          · exact Nat.le_of_eq (hm1 hmx0).1
          · exact Nat.le_trans (hm2 hmx0).1 hl
         refine .sl r (off+a) (b - a) cap' L _ (m - a) hρ ?_ (by omega) (by omega) (fun hcap=>?_) (fun k hk=>?_) (fun hne=>?_)
         · by_cases hma:m=a
           · exact .inr (by omega)
           · left;rw[if_neg hma];have hcne:c≠0:=by omega
             obtain rfl:=ha.resolve_right hcne;simp only[Option.map_some,Addr.add_mid,← hLs]
             congr 2
             rw[Nat.add_mul];omega
         · by_cases hmx0:mx=none
           · obtain⟨rfl,rfl⟩:=hm1 hmx0
             cases cap with
             | none=>have:=hc0 rfl;omega
             | some k=>simp at hcap
           · rw[(hm2 hmx0).2]at hcap;cases hcap
         · by_cases hmx0:mx=none
           · obtain⟨rfl,rfl⟩:=hm1 hmx0
             cases cap with
             | none=>simp at hk
             | some k' =>
              simp at hk;have:=hc1 k' rfl;omega
           · rw[(hm2 hmx0).2]at hk;cases hk;rfl
         · have hcne:c≠0:=by omega
           have:=hz hcne;have:(off+a+(m - a))*L.sz≤(off+c)*L.sz:=Nat.mul_le_mul_right _ (by omega);omega
       have hform:∃ ad c,u=.slice ad len c∧len≤c:=by
        cases hu with
        | sl r off len cap L a' c hρ ha hl=>exact⟨_,_,rfl,hl⟩
        | slP=>exact⟨_,_,rfl,Nat.le_refl _⟩
       obtain⟨ad,c,hu',hlc⟩:=hform
       split at hc
       · have:umx=none:=by cases umx with
          | none=>rfl
          | some x=>exact hmx.elim
         subst this
         split at hc
         · rename_i a b hcut
           cases hc;obtain⟨e1,e2,e3⟩:=fU (P:=P) (cap:=c) hlc hcut hlo hhi true;refine⟨_,?_,main a b c _ e2 e3 (by omega) (fun _ _=>trivial) ad c hu' (fun _=>⟨rfl,rfl⟩) (fun hne=>absurd rfl hne) hlc⟩;subst hu';simp[Instr.sliceAt,zF hty,Instr.slice,e1,run_sizeOf hinfo]
         · cases hc
       · rename_i k m
         split at hc
         · rename_i hm
           split at hc
           · cases hc
           · rename_i hiv
             split at hc
             · rename_i a b hcut
               cases hc;obtain⟨um,rfl⟩:∃ um,umx=some um:=by
                cases umx with
                | none=>exact hmx.elim
                | some x=>exact⟨x,rfl⟩
               obtain⟨uh,rfl⟩:∃ um,uhi=some um:=by
                cases uhi with
                | none=>exact hhi.elim
                | some x=>exact⟨x,rfl⟩
               cases hmx with
               | t _ _ hx =>
               cases hx
               have hb3 : (Instr.sliceBounds true len c ulo (some uh) (some (.int k m))).run P w = .ok (a, b, m.toNat) w ∧ a ≤ b ∧ b ≤ m.toNat := by
                unfold l6 at hcut
                split at hcut
                · rename_i hh he
                  split at hcut
                  · rename_i ll hl
                    cases hcut;rcases lA (P:=P) (y:=m.toNat) he hhi (Nat.le_refl _) .slice3B with⟨h1,_⟩|⟨x,h1,h2,h3⟩
                    · cases h1
                    · cases h1;have e2:(match ulo with
                       | some v=>Instr.sliceBound v b .slice3C
                       | none=>pure 0).run P w=.ok a w∧a≤b:=by
                       rcases lA (P:=P) (y:=b) hl hlo (Nat.le_refl _) .slice3C with⟨rfl,rfl⟩|⟨x,rfl,h1,h2⟩
                       · exact⟨rfl,Nat.zero_le _⟩
                       · exact⟨h1,h2⟩
                      refine⟨?_,e2.2,h3⟩;have e0:=qA (P:=P) (w:=w) (k:=k) (n:=m) (y:=c) (code:=.slice3Acap) hm.1 (by omega);unfold Instr.sliceBounds
                      cases ulo<;>simp_all
                  · cases hcut
                · cases hcut
               refine⟨_,?_,main a b m.toNat _ hb3.2.1 (by omega) hb3.2.2 (fun _ _=>trivial) ad c hu' (fun hne=>by cases hne) (fun _=>⟨by omega,rfl⟩) hlc⟩;subst hu';simp[Instr.sliceAt,zF hty,Instr.slice,hb3.1,run_sizeOf hinfo]
             · cases hc
         · cases hc
       · cases hc
     · cases hc
   · cases hc
 · cases hc
theorem iY {α:Type}{es:List α}{n:Int}{x:α}(hg:uJ es n=some x):0≤n∧n<es.length∧es[n.toNat]? = some x:=by
 unfold uJ at hg
 split at hg
 · rename_i h0;have:=(List.getElem?_eq_some_iff.1 hg).1;exact⟨h0,by omega,hg⟩
 · cases hg
theorem ay (hS : St w F ρ Ow h) {ty : TypeId} {x i v : V} (hc : vU P ty x i h = some v) {u ui : Value} (hu : RV w F ρ u x) (hi : RV w F ρ ui i) :
 ∃ u',(Instr.indexAt ty u ui).run P w=.ok u' w∧RV w F ρ u' v:=by
 unfold vU at hc
 split at hc
 · rename_i k n
   cases hi with
   | t _ _ hx =>
   cases hx
   split at hc
   · rename_i el hel;obtain⟨hty,inf,hinfo⟩:=xW hel
     split at hc
     · rename_i sz es
       split at hc
       · rename_i hsz;simp only[beq_iff_eq]at hsz;subst hsz
         split at hc
         · rename_i cs hg
           cases hc;obtain⟨h1,h2,h3⟩:=iY hg
           cases hu with
           | t _ _ hx =>
           cases hx with
           | list a m c sz es g hn hcc h0 hz hr =>
           subst hn;obtain⟨b,o,rfl,hb,hcell⟩:=h0 (by omega);refine⟨.pointer (some ⟨b,o+n.toNat*zC P el,none⟩),?_,.t _ _ (.fp b _ cs (fun j=>g n.toNat j) hb (fun j hj=>?_) fun j x hj=>hr _ _ _ _ h3 hj)⟩
           · simp[Instr.indexAt,asIntOf,zF hty,h1,h2,run_sizeOf hinfo,Addr.add_mid]
           · have:=hcell n.toNat j (by omega) (by rw[← hz cs (List.mem_of_getElem? h3)];exact hj);rw[← this];congr 2;omega
         · cases hc
       · cases hc
     · rename_i r off len cap
       split at hc
       · rename_i ht
         cases hc;simp only[Bool.and_eq_true,beq_iff_eq,decide_eq_true_eq]at ht;obtain⟨⟨ht,h1⟩,h2⟩:=ht
         cases hb:h[r]? with
         | none=>simp[hb]at ht
         | some blk =>
         simp only[hb,Option.bind_some]at ht
         cases hu with
         | slP=>simp at h2;omega
         | sl r off len cap L a c hρ ha hl hn hc0 hc1 hz =>
          have hLs:L.sz=zC P el:=by
           have:=hS.blk r blk hb
           cases blk with
           | dead=>simp[xt]at ht
           | ts|vs|fz =>
            simp only[xt,Option.some.injEq]at ht;rcases this with⟨L',h1,h2,_⟩|⟨h1,_⟩
            · rw[hρ]at h1;cases h1;exact h2.trans ht
            · rw[hρ]at h1;cases h1
          obtain rfl:=ha.resolve_right (by omega);refine⟨.pointer (some ⟨L.b,L.o+((off+n.toNat)*L.sz+0),none⟩),?_,.ptr r _ 0 L hρ⟩;simp[Instr.indexAt,asIntOf,zF hty,h1,h2,run_sizeOf hinfo,Addr.add_mid,← hLs];rw[Nat.add_mul];omega
       · cases hc
     · cases hc
   · cases hc
 · cases hc
theorem Z9 {s : TypeId} {i o n : Nat} {a : Bool} (hf : fOf P s i = some (o, n, a)) : ∃ fs f inf d, P.underlying s = some (.struct fs) ∧ fs[i]? = some f ∧ f.offset = o ∧ P.info? f.type = some inf ∧ inf.size = n ∧ n ≠ 0 ∧ P.underlying f.type = some d ∧ a = yd P f.type ∧ zC P f.type = n := by
 unfold fOf at hf
 split at hf
 · rename_i fs hfs
   split at hf
   · rename_i f hfi
     split at hf
     · rename_i inf hinf
       split at hf
       · rename_i d hd
         split at hf
         · cases hf
         · rename_i hn
           cases hf;exact⟨fs,f,inf,d,hfs,hfi,rfl,hinf,rfl,hn,hd,rfl,by simp[zC,Program.cellsOf,hinf]⟩
       · cases hf
     · cases hf
   · cases hf
 · cases hf
theorem az {s:TypeId}{x v:V}{i:Nat}(hc:sE P s x i=some v){u:Value}(hu:RV w F ρ u x):∃ u',(Instr.fieldAt s u i).run P w=.ok u' w∧RV w F ρ u' v:=by
 unfold sE at hc
 split at hc
 · rename_i o n a hf;obtain⟨fs,f,inf,d,h1,h2,rfl,h4,h5,h6,h7,h8,h9⟩:=Z9 hf;have hplace:∀ b o',(fieldPlace ⟨b,o',none⟩ f).run P w=.ok ⟨b,o'+f.offset,none⟩ w:=fun b o'=>by
    simp[fieldPlace,run_sizeOf h4,h9,h6,Addr.add_mid]
   split at hc
   · rename_i r a' j
     cases hc
     cases hu with
     | ptr r a' j L hρ =>
     refine⟨_,?_,.ptr r a' (j+f.offset) L hρ⟩;simp[Instr.fieldAt,zF h1,h2,Instr.sureAddr,hplace];omega
   · rename_i cs
     split at hc
     · rename_i ho
       cases hc
       cases hu with
       | t _ _ hx =>
       cases hx with
       | fp b o' cs g hF hcell hr =>
       refine⟨.pointer (some ⟨b,o'+f.offset,none⟩),?_,.t _ _ (.fp b _ _ (fun j=>g (f.offset+j)) hF (fun j hj=>?_) fun j x hj=>?_)⟩
       · simp[Instr.fieldAt,zF h1,h2,Instr.sureAddr,hplace]
       · rw[← hcell (f.offset+j) (by simp at hj;omega)];congr 2;omega
       · rw[List.getElem?_drop]at hj;exact hr _ _ hj
     · cases hc
   · cases hc
 · cases hc
theorem WJ {t:TypeId} {d:TypeDesc} {i:TypeInfo} (hd:P.underlying t=some d) (hi:P.info? t=some i) {us:List Value} {cs:List V} {o:Nat} {v:V} (hr:RVs w F ρ us cs) (hl:o+zC P t≤cs.length)
 (hp:zd (yd P t) ((cs.drop o).take (zC P t))=some v) (arr:Array Value) (ha:arr.toList=us):∃ u,(part t arr o).run P w=.ok u w∧RV w F ρ u v:=by
 obtain⟨h1,h2⟩:=kW hp (kQ (kR hr o) (zC P t));have hul:=zP hr
 cases hag:yd P t with
 | true =>
  refine⟨_,?_,h1 hag⟩;simp only[part,Sem.run_bind,rK hd,Result.andThen_ok,hag,if_true,run_sizeOf hi,Sem.run_pure]
  congr 2
  apply Array.ext';simp[Array.toList_extract,List.extract_eq_take_drop,ha,Nat.add_sub_cancel_left]
 | false =>
  obtain⟨u,he,hv⟩:=h2 hag;refine⟨u,?_,hv⟩;have:us[o]? = some u:=by
   have:=congrArg (·[0]?) he;simp only[List.getElem?_take,List.getElem?_drop]at this
   split at this
   · simpa using this
   · simp at this
  have hau:arr[o]? = some u:=by rw[← Array.getElem?_toList,ha];exact this
  simp[part,Sem.run_bind,rK hd,hag,hau]
theorem Qn {s:TypeId}{x v:V}{i:Nat}(hc:fld P s x i=some v){u:Value}(hu:RV w F ρ u x):∃ u',(Instr.field s u i).run P w=.ok u' w∧RV w F ρ u' v:=by
 unfold fld at hc
 split at hc
 · rename_i o n a hf;obtain⟨fs,f,inf,d,h1,h2,rfl,h4,h5,h6,h7,h8,h9⟩:=Z9 hf
   split at hc
   · rename_i cs
     split at hc
     · rename_i hl
       cases hu with
       | agg vs cs g hs hg hr =>
       subst h8;rw[← h9]at hc hl;obtain⟨u,e1,e2⟩:=WJ (P:=P) (w:=w) h7 h4 (xp hs hg hr) hl hc vs rfl;exact⟨u,by simp[Instr.field,zF h1,h2,asAgg,e1],e2⟩
     · cases hc
   · cases hc
 · cases hc
theorem ry {t:TypeId}(hk:known P t=true):∃ d,P.underlying t=some d:=Option.isSome_iff_exists.1 hk
theorem ZZ (hS:St w F ρ Ow h){ty:TypeId}{x v:V}(hc:load P ty x h=some v){u:Value}(hu:RV w F ρ u x):∃ u',(Instr.loadAt ty u).run P w=.ok u' w∧RV w F ρ u' v:=by
 unfold load at hc
 split at hc
 · rename_i r i j
   split at hc
   · rename_i hk;obtain⟨d,hd⟩:=ry hk
     split at hc
     · rename_i cs hl;obtain⟨b,o,us,rfl,e1,e2,e3⟩:=av hS hl hu;obtain⟨u',h1,h2⟩:=sQ hd e1 e2 e3 hc;exact⟨u',by simp[Instr.loadAt,Instr.sureAddr,h1],h2⟩
     · cases hc
   · cases hc
 · rename_i cs
   split at hc
   · rename_i hk;obtain⟨d,hd⟩:=ry hk.1
     cases hu with
     | t _ _ hx =>
     cases hx with
     | fp b o cs g hF hcell hr =>
     obtain⟨u',h1,h2⟩:=sQ (P:=P) (w:=w) (F:=F) (ρ:=ρ) hd (b:=b) (o:=o) (us:=(List.range (zC P ty)).map g) (cs:=(cs.take (zC P ty)).map .t) (v:=v) (by simp) (fun j v' hv=>by
      have hj:j<zC P ty:=by have:=(List.getElem?_eq_some_iff.1 hv).1;simpa using this
      simp[hj]at hv;subst hv;exact hcell j (by omega)) (fC (x6 (by simp;omega) fun j u x hu hx=>by
      have hj:j<zC P ty:=by have:=(List.getElem?_eq_some_iff.1 hu).1;simpa using this
      simp[hj]at hu;subst hu;rw[List.getElem?_take]at hx;simp[hj]at hx;exact hr j x hx)) hc
     exact⟨u',by simp[Instr.loadAt,Instr.sureAddr,h1],h2⟩
   · cases hc
 · cases hc
theorem Wo (hS:St w F ρ Ow h){ty:TypeId}{x v:V}{h':Heap}(hc:store P ty x v h=some h'){u uv:Value}(hu:RV w F ρ u x)(hv:RV w F ρ uv v) :
 ∃ w' F',(Instr.storeAt ty u uv).run P w=.ok () w'∧St w' F' ρ Ow h'∧Nxt Ow w F ρ w' F' ρ:=by
 unfold store at hc
 split at hc
 · rename_i r i j
   split at hc
   · rename_i hk;obtain⟨hk1,hk2,hk3⟩:=hk;obtain⟨d,hd⟩:=ry hk1;obtain⟨inf,hinf⟩:=info_of_underlying hd;have hcells:=pY hv hk3;obtain⟨b,o,F',rfl,h1,h2,h3⟩:=af hS hc hu hcells hk3;have hl:=zP hcells;have hone:=Zu hcells hk3;have hst:=run_storeCells_cells (P:=P) b o uv.cells.toList 0 w (fun j hj=>by simpa using (h1 j hj).1) (fun j hj=>by simpa using (h1 j hj).2) (fun v hv=>by
      have:=List.all_eq_true.1 hone v hv;exact this)
     simp only[Nat.add_zero]at hst;refine⟨_,F',?_,h2,h3⟩;have hsz:uv.cells.size=zC P ty:=by rw[← hk2];simpa using hl
     simp[Instr.storeAt,Instr.sureAddr,storeVar,run_sizeOf hinf,hsz,hst]
   · cases hc
 · cases hc
end Go.Proofs.YtefkoljdebekdaaGreatDoor.E
/- The evaluator's operations are those of the machine: what makes memory, conversions, builtins. Conditions: those of each lemma. -/
namespace Go.Proofs.YtefkoljdebekdaaGreatDoor.E
variable {P:Program} {w:World} {F:Nat→Prop} {ρ:y9} {Ow:Own} {h:Heap}
theorem wT {t:TypeId}{zs:List V}(hz:zeroOf P t=some zs):∃ inf z,P.info? t=some inf∧inf.zero=some z∧z.cells.size=inf.size∧RVs w F ρ z.cells.toList zs∧zs.length=zC P t:=by
 unfold zeroOf at hz
 split at hz
 · rename_i inf hinf
   split at hz
   · rename_i z hzz;simp only at hz
     split at hz
     · rename_i hb
       cases hz;simp only[Bool.and_eq_true,beq_iff_eq]at hb;have hr:=rW (P:=P) (w:=w) (F:=F) (ρ:=ρ) z.cells.toList (Xb P 8 t);have:=zP hr;exact⟨inf,z,hinf,hzz,hb.1,hr,by rw[← this];simp[hb.1,zC,Program.cellsOf,hinf]⟩
     · cases hz
   · cases hz
 · cases hz
theorem XX (ty:TypeId)(v:Value):ff (wJ P ty v)=false→y5 (wJ P ty v)=true:=by
 unfold wJ
 split
 case h_4=>split<;>simp[ff,y5]
 all_goals simp[ff,y5]
theorem kD:∀ (vs:List Value) (ts:List TypeId),(xE P vs ts).any ff=false→(xE P vs ts).all y5=true
 | [],_=>by simp[xE]
 | v::vs,[]=>by simp[xE,ff]
 | v::vs,t::ts=>by
  simp only[xE,List.any_cons,List.all_cons,Bool.or_eq_false_iff,Bool.and_eq_true];exact fun h=>⟨XX t v h.1,kD vs ts h.2⟩
theorem pT {t:TypeId}{zs:List V}(hz:zeroOf P t=some zs):zs.all y5=true:=by
 unfold zeroOf at hz
 split at hz
 · split at hz
   · simp only at hz
     split at hz
     · rename_i hb
       cases hz;simp only[Bool.and_eq_true,Bool.not_eq_true']at hb;exact kD _ _ hb.2
     · cases hz
   · cases hz
 · cases hz
theorem ZW (hS:St w F ρ Ow h)(hO:OkO Ow w ρ h){arr:Array Value}{el:TypeId}{cs:List V}(hr:RVs w F ρ arr.toList cs)(hok:cs.all y5=true) :
 ∃ ρ',RV (w.alloc (.cells arr el)) F ρ' (.pointer (some ⟨w.heap.size,0,none⟩)) (.ptr (nI Ow.N h) 0 0)∧St (w.alloc (.cells arr el)) F ρ' Ow (nH Ow.N h (.vs cs.length [cs]))∧Nxt Ow w F ρ (w.alloc (.cells arr el)) F ρ':=by
 obtain⟨ρ',k1,k2,k3⟩:=Qg (el:=el) hS hO hr hok;refine⟨ρ',?_,k1,k2⟩;have:=RV.ptr (w:=w.alloc (.cells arr el)) (F:=F) (ρ:=ρ') (nI Ow.N h) 0 0 _ k3;simpa using this
theorem VN (hS:St w F ρ Ow h)(hO:OkO Ow w ρ h){t:TypeId}{zs:List V}(hz:zeroOf P t=some zs) :
 xx P w F ρ Ow (Instr.alloc t true (.tuple #[])) (.ptr (nI Ow.N h) 0 0) (nH Ow.N h (.vs zs.length [zs])):=by
 obtain⟨inf,z,h1,h2,h3,h4,h5⟩:=wT (w:=w) (F:=F) (ρ:=ρ) hz;obtain⟨ρ',k1,k2,k3⟩:=ZW (el:=t) hS hO h4 (pT hz);exact⟨_,F,ρ',_,by simp[Instr.alloc,tc h1 h2,newVar,newRow],k1,k2,k3⟩
theorem QN (hS:St w F ρ Ow h)(hO:OkO Ow w ρ h){t:TypeId}{u:Value}{v:V}(hu:RV w F ρ u v)(hv:(z7 v).all y5=true) :
 xx P w F ρ Ow (Instr.box t u) (.ptr (nI Ow.N h) 0 0) (nH Ow.N h (.vs (z7 v).length [z7 v])):=by
 obtain⟨ρ',k1,k2,k3⟩:=ZW (el:=t) hS hO (pY hu hv) hv;exact⟨_,F,ρ',_,by simp[Instr.box,newVar,newRow],k1,k2,k3⟩
theorem foldl_set (off:Nat):∀ (l:List Value) (k:Nat) (cs:Array Value),off+k+l.length≤cs.size →
 ((l.zipIdx k).foldl (fun cs (x:Value×Nat)=>cs.setIfInBounds (off+x.2) x.1) cs).size=cs.size ∧
 ∀ m,((l.zipIdx k).foldl (fun cs (x:Value×Nat)=>cs.setIfInBounds (off+x.2) x.1) cs)[m]? = if off+k≤m∧m<off+k+l.length then l[m - (off+k)]? else cs[m]?
 | [],k,cs,_=>⟨rfl,fun m=>by simp only[List.zipIdx_nil,List.foldl_nil,List.length_nil];rw[if_neg (by omega)]⟩
 | x::l,k,cs,hl=>by
  simp only[List.length_cons]at hl;simp only[List.zipIdx_cons,List.foldl_cons];obtain⟨h1,h2⟩:=foldl_set off l (k+1) (cs.setIfInBounds (off+k) x) (by simp;omega);refine⟨by simpa using h1,fun m=>?_⟩;rw[h2];simp only[List.length_cons]
  by_cases hm:off+k=m
  · subst hm;rw[if_neg (by omega),if_pos (by omega)];simp[show off+k<cs.size by omega]
  · by_cases hm':off+(k+1)≤m∧m<off+(k+1)+l.length
    · rw[if_pos hm',if_pos (by omega),show m - (off+k)=(m - (off+(k+1)))+1 by omega];simp
    · rw[if_neg hm',if_neg (by omega),Array.getElem?_setIfInBounds_ne hm]
theorem pP (off:Nat)(v cs:Array Value)(hl:off+v.size≤cs.size):(v.zipIdx.foldl (fun cs (c,j)=>cs.setIfInBounds (off+j) c) cs).toList=wB cs.toList off v.toList:=by
 have h1:v.zipIdx.foldl (fun cs (c,j)=>cs.setIfInBounds (off+j) c) cs=(v.toList.zipIdx 0).foldl (fun cs (x:Value×Nat)=>cs.setIfInBounds (off+x.2) x.1) cs:=by
  rw[← Array.foldl_toList];simp
 obtain⟨h2,h3⟩:=foldl_set off v.toList 0 cs (by simpa using hl);rw[h1];apply List.ext_getElem?;intro m;rw[Array.getElem?_toList,h3,so (by simpa using hl)];simp
theorem ak {us vs':List Value}{cs xs:List V}(h1:RVs w F ρ us cs)(h2:RVs w F ρ vs' xs)(j:Nat):RVs w F ρ (wB us j vs') (wB cs j xs):=by
 unfold wB;rw[zP h2];exact yY (yY (kQ h1 _) h2) (kR h1 _)
def placesOf (P:Program)(fs:Array Go.Field):Array (Nat×Nat):=fs.map fun f=>(f.offset,zC P f.type)
theorem run_places (fs:Array Go.Field)(hf:∀ f∈fs,∃ i,P.info? f.type=some i):(fs.mapM (m:=Sem) fun (f:Go.Field)=>do pure (f.offset,← sizeOf f.type)).run P w=.ok (placesOf P fs) w:=by
 have key:∀ l:List Go.Field,(∀ f∈l,∃ i,P.info? f.type=some i)→(l.mapM (m:=Sem) fun (f:Go.Field)=>do pure (f.offset,← sizeOf f.type)).run P w=.ok (l.map fun f=>(f.offset,zC P f.type)) w:=by
  intro l
  induction l with
  | nil=>intro _;simp
  | cons f l ih =>
   intro hl;obtain⟨i,hi⟩:=hl f (by simp);have ih':=ih fun f hf=>hl f (by simp[hf])
   rw[List.mapM_cons,Sem.run_bind,Sem.run_bind,run_sizeOf hi];simp only[Result.andThen_ok,Sem.run_pure];rw[Sem.run_bind,ih'];rfl
 rw[Array.mapM_eq_mapM_toList,Sem.run_map,key fs.toList (fun f hx=>hf f (by simpa using hx))];simp only[Result.andThen_ok,placesOf]
 congr 1
 apply Array.ext';simp
theorem o8 {a:Act}{e:Env}(he:RE w F ρ a e)(ty:Nat→TypeId):∀ ps:List (Nat×Operand),vg (fun (x:Nat×Value) (y:Nat×V)=>x.1=y.1∧RV w F ρ x.2 y.2) (ps.map fun (i,x)=>(i,a.eval x)) (xD P e ty ps)
 | []=>.nil
 | (i,x)::ps=>by simp only[List.map_cons,xD];exact .cons ⟨rfl,yO he _ _⟩ (o8 he ty ps)
theorem Wn {t:TypeId}(ht:uR P t=true):∃ fs,P.underlying t=some (.struct fs)∧∀ f∈fs,∃ i,P.info? f.type=some i:=by
 unfold uR at ht
 split at ht
 · rename_i fs hfs;exact⟨fs,hfs,fun f hf=>Option.isSome_iff_exists.1 (List.all_eq_true.1 ht f (by simpa using hf))⟩
 · cases ht
theorem YB {t:TypeId}{fs:Array Go.Field}(hfs:P.underlying t=some (.struct fs)):∀ {ps:List (Nat×Value)} {qs:List (Nat×V)} {arr:Array Value} {cs cs':List V},
 vg (fun (x:Nat×Value) (y:Nat×V)=>x.1=y.1∧RV w F ρ x.2 y.2) ps qs→RVs w F ρ arr.toList cs→sP P t cs qs=some cs' →
 ∃ arr',Instr.fill ((placesOf P fs)[·]?) arr ps=some arr'∧RVs w F ρ arr'.toList cs'
 | _,[],arr,cs,cs',hp,hr,hf=>by cases hp;simp only[sP]at hf;cases hf;exact⟨arr,rfl,hr⟩
 | _, (i, v) :: qs, arr, cs, cs', hp, hr, hf => by
  cases hp with
  | cons hx hps =>
  rename_i x ps;obtain⟨j,uv⟩:=x;obtain⟨rfl,hv⟩:=hx;simp only[sP]at hf
  split at hf
  · rename_i o n a hfo;obtain⟨fs',f,inf,d,h1,h2,rfl,h4,h5,h6,h7,h8,h9⟩:=Z9 hfo;rw[hfs]at h1;cases h1
    split at hf
    · rename_i hc;obtain⟨c1,c2,c3⟩:=hc;have hcells:=pY hv c3;have hl:=zP hcells;have hal:=zP hr;have hsz:uv.cells.size=n:=by rw[← c1];simpa using hl
      obtain⟨arr',e1,e2⟩:=YB hfs (arr:=uv.cells.zipIdx.foldl (fun cs (c,j)=>cs.setIfInBounds (f.offset+j) c) arr) hps (by
       rw[pP _ _ _ (by rw[hsz];simp at hal;omega)];exact ak hr hcells _) hf
      refine⟨arr',?_,e2⟩;have hpl:(placesOf P fs)[j]? = some (f.offset,n):=by simp[placesOf,Array.getElem?_map,h2,h9]
      simp only[Instr.fill,hpl]
      rw [if_neg (by simp; constructor; · exact hsz
                     · rw[hsz];simp at hal;omega)]
      exact e1
    · cases hf
  · cases hf
theorem Vw (hS:St w F ρ Ow h) {t:TypeId} (ht:uR P t=true) {zs cs:List V} (hz:zeroOf P t=some zs) {ps:Array (Nat×Value)} {qs:List (Nat×V)} (hp:vg (fun (x:Nat×Value) (y:Nat×V)=>x.1=y.1∧RV w F ρ x.2 y.2) ps.toList qs)
 (hf:sP P t zs qs=some cs):xx P w F ρ Ow (Instr.build t ps) (.agg cs) h:=by
 obtain⟨fs,hfs,hall⟩:=Wn ht;obtain⟨inf,z,h1,h2,h3,h4,h5⟩:=wT (w:=w) (F:=F) (ρ:=ρ) hz;obtain⟨arr',e1,e2⟩:=YB hfs hp h4 hf;refine xx.same hS (u:=.agg arr') ?_ (RV.eI e2);simp only[Instr.build,Sem.run_bind,tc h1 h2,Result.andThen_ok,zF hfs,run_places fs hall];simp only[e1,Sem.run_pure]
theorem ji {sz : Nat} : ∀ {ps : List (Nat × Value)} {qs : List (Nat × V)} {n : Nat} {css : List (List V)} {arr : Array Value},
 vg (fun (x:Nat×Value) (y:Nat×V)=>x.1=y.1∧RV w F ρ x.2 y.2) ps qs→vk sz n qs=some css→(n+qs.length)*sz≤arr.size →
 ∃ arr' us,Instr.fill (fun i=>some (i*sz,sz)) arr ps=some arr'∧arr'.size=arr.size∧RVs w F ρ us css.flatten∧us.length=qs.length*sz∧(∀ c∈css,c.length=sz)∧css.length=qs.length ∧
  (∀ m,arr'[m]? = if n*sz≤m∧m<(n+qs.length)*sz then us[m - n*sz]? else arr[m]?)∧(∀ c∈css,c.all y5=true)
 | _,[],n,css,arr,hp,hf,hl=>by
  cases hp;simp only[vk]at hf;cases hf;exact⟨arr,[],rfl,rfl,.nil,by simp,(fun c hc=>by cases hc),rfl,fun m=>by simp only[List.length_nil,Nat.add_zero];rw[if_neg (by omega)],fun c hc=>by cases hc⟩
 | _, (i, v) :: qs, n, css, arr, hp, hf, hl => by
  cases hp with
  | cons hx hps =>
  rename_i x ps;obtain⟨j,uv⟩:=x;obtain⟨rfl,hv⟩:=hx;simp only[vk]at hf
  split at hf
  · rename_i hc;obtain⟨rfl,c1,c3⟩:=hc
    split at hf
    · rename_i r hr
      cases hf;have hcells:=pY hv c3;have hul:=zP hcells;have hsz:uv.cells.size=sz:=by rw[← c1];simpa using hul
      simp only[List.length_cons]at hl;have m1:(j+(qs.length+1))*sz=j*sz+sz+qs.length*sz:=by rw[Nat.add_mul,Nat.add_mul];omega
      have m2:(j+1+qs.length)*sz=j*sz+sz+qs.length*sz:=by rw[Nat.add_mul,Nat.add_mul];omega
      have hfit:j*sz+uv.cells.size≤arr.size:=by omega
      have hsplice:=pP (j*sz) uv.cells arr hfit;have hsize:(uv.cells.zipIdx.foldl (fun cs (c,j')=>cs.setIfInBounds (j*sz+j') c) arr).size=arr.size:=by
       have:=congrArg List.length hsplice;rw[lN (by simpa using hfit)]at this;simpa using this
      obtain⟨arr',us,e1,e2,e3,e4,e5,e6,e7,e8⟩:=ji (arr:=uv.cells.zipIdx.foldl (fun cs (c,j')=>cs.setIfInBounds (j*sz+j') c) arr) hps hr (by rw[hsize];omega);refine⟨arr',uv.cells.toList++us,?_,by rw[e2,hsize],?_,by simp only[List.length_append,List.length_cons,e4];rw[Nat.add_mul];simp[hsz];omega,?_,by simp[e6],fun m=>?_,?_⟩
      · simp only[Instr.fill]
        rw [if_neg (by simp; constructor; · exact hsz
                       · omega)]
        exact e1
      · simp only[List.flatten_cons];exact yY hcells e3
      · intro c hc;rcases List.mem_cons.1 hc with rfl|hc
        · exact c1
        · exact e5 c hc
      · rw[e7];simp only[List.length_cons];have m3:(j+1)*sz=j*sz+sz:=by rw[Nat.add_mul];omega
        by_cases hm:(j+1)*sz≤m∧m<(j+1+qs.length)*sz
        · rw[if_pos hm,if_pos (by omega),List.getElem?_append_right (by simp;omega)]
          congr 1;simp;omega
        · rw[if_neg hm,← Array.getElem?_toList,hsplice,so (by simpa using hfit)]
          by_cases hm2:j*sz≤m∧m<j*sz+uv.cells.toList.length
          · rw[if_pos hm2,if_pos (by simp at hm2;omega),List.getElem?_append_left (by simp at hm2 ⊢;omega)]
          · rw[if_neg hm2,if_neg (by simp at hm2;omega)];simp
      · intro c hc;rcases List.mem_cons.1 hc with rfl|hc
        · exact c3
        · exact e8 c hc
    · cases hf
  · cases hf
theorem iX : ∀ {css : List (List V)} {F : Nat → Prop} {h h' : Heap} {us : List Value} {es : List (List T)}, St w F ρ Ow h → RVs w F ρ us css.flatten → w4 h css = some (es, h') →
 ∃ F',RTs w F' us es.flatten∧St w F' ρ Ow h'∧Nxt Ow w F ρ w F' ρ∧es.length=css.length∧(∀ (i:Nat) (c:List V) (e:List T),css[i]? = some c→es[i]? = some e→e.length=c.length)
 | [],F,h,h',us,es,hS,hu,hg=>by simp only[w4]at hg;cases hg;cases hu;exact⟨F,.nil,hS,Nxt.refl _ _ _ _,rfl,fun i c e hi=>by simp at hi⟩
 | c :: css, F, h, h', us, es, hS, hu, hg => by
  simp only[w4]at hg
  split at hg
  · rename_i x h1 hx
    split at hg
    · rename_i xs h2 hxs
      cases hg;simp only[List.flatten_cons]at hu;have hl:=zP hu;simp only[List.length_append]at hl;have e0:us=us.take c.length++us.drop c.length:=(List.take_append_drop _ _).symm;have r1:RVs w F ρ (us.take c.length) c:=by
       have:=kQ hu c.length;simpa using this
      have r2:RVs w F ρ (us.drop c.length) css.flatten:=by
       have:=kR hu c.length;simpa using this
      obtain⟨F1,k1,k2,k3⟩:=b6 hS r1 hx;obtain⟨F2,k4,k5,k6,k7,k8⟩:=iX k2 (k3.rvs r2) hxs;refine⟨F2,?_,k5,k3.trans k6,by simp[k7],fun i c' e hi he=>?_⟩
      · rw[e0];simp only[List.flatten_cons];exact yY (xS k1 fun _ _ z=>k6.rt z) k4
      · cases i with
        | zero =>
         simp at hi he;subst hi;subst he;have:=zP k1;simp at this;omega
        | succ i=>exact k8 i c' e (by simpa using hi) (by simpa using he)
    · cases hg
  · cases hg
mutual
theorem XR:∀ (v:V) {h h':Heap} {v':V},yP h v=some (v',h')→h'.length=h.length∧∀ i:Nat,h[i]? = some .dead→h'[i]? = some .dead
 | .sl r off len cap,h,h',v',hg=>by
  simp only[yP]at hg
  split at hg
  · rename_i sz es hb
    cases hg;refine⟨by simp,fun i hi=>?_⟩;rw[List.getElem?_set_ne (fun e=>by subst e;rw[hi]at hb;cases hb)];exact hi
  · cases hg;exact⟨rfl,fun _ x=>x⟩
  · rename_i sz es hb
    split at hg
    · cases hg;refine⟨by simp,fun i hi=>?_⟩;rw[List.getElem?_set_ne (fun e=>by subst e;rw[hi]at hb;cases hb)];exact hi
    · cases hg
  · cases hg
 | .nil sz,h,h',v',hg=>by simp only[yP]at hg;cases hg;exact⟨rfl,fun _ x=>x⟩
 | .agg cs,h,h',v',hg=>by
  simp only[yP]at hg
  split at hg
  · rename_i cs' h1 hc;cases hg;exact vE cs hc
  · cases hg
 | .tup cs,h,h',v',hg=>by
  simp only[yP]at hg
  split at hg
  · rename_i cs' h1 hc;cases hg;exact vE cs hc
  · cases hg
 | .t x,h,h',v',hg=>by simp only[yP]at hg;cases hg;exact⟨rfl,fun _ x=>x⟩
 | .fn f cs,h,h',v',hg=>by
  simp only[yP]at hg
  split at hg
  · cases hg;exact⟨rfl,fun _ x=>x⟩
  · cases hg
 | .ptr r i j,h,h',v',hg=>by simp[yP]at hg
 | .und,h,h',v',hg=>by simp[yP]at hg
 | .bad,h,h',v',hg=>by simp[yP]at hg
theorem vE:∀ (vs:List V) {h h':Heap} {vs':List V},yP.gives h vs=some (vs',h')→h'.length=h.length∧∀ i:Nat,h[i]? = some .dead→h'[i]? = some .dead
 | [],h,h',vs',hg=>by simp only[yP.gives]at hg;cases hg;exact⟨rfl,fun _ x=>x⟩
 | v::vs,h,h',vs',hg=>by
  simp only[yP.gives]at hg
  split at hg
  · rename_i x h1 h1e
    split at hg
    · rename_i xs h2 h2e
      cases hg;obtain⟨a1,a2⟩:=XR v h1e;obtain⟨b1,b2⟩:=vE vs h2e;exact⟨b1.trans a1,fun i hi=>b2 i (a2 i hi)⟩
    · cases hg
  · cases hg
end
theorem sZ : ∀ {css : List (List V)} {h h' : Heap} {es : List (List T)}, w4 h css = some (es, h') → h'.length = h.length ∧ ∀ i : Nat, h[i]? = some .dead → h'[i]? = some .dead
 | [],h,h',es,hg=>by simp only[w4]at hg;cases hg;exact⟨rfl,fun _ x=>x⟩
 | c :: css, h, h', es, hg => by
  simp only[w4]at hg
  split at hg
  · rename_i x h1 h1e
    split at hg
    · rename_i xs h2 h2e
      cases hg;unfold qn at h1e
      split at h1e
      · rename_i ys h3 h3e
        split at h1e
        · cases h1e;obtain⟨a1,a2⟩:=vE c h3e;obtain⟨b1,b2⟩:=sZ h2e;exact⟨b1.trans a1,fun i hi=>b2 i (a2 i hi)⟩
        · cases h1e
      · cases h1e
    · cases hg
  · cases hg
theorem eX (hO:OkO Ow w ρ h){css:List (List V)}{h':Heap}{es:List (List T)}(hg:w4 h css=some (es,h')):OkO Ow w ρ h':=by
 obtain⟨h1,h2⟩:=sZ hg;refine⟨hO.blk,?_,fun i hi=>⟨h2 i (hO.dead i hi).1,(hO.dead i hi).2⟩⟩;have:=hO.free
 cases hN:Ow.N<;>simp[hN,nI,h1]at this ⊢ <;> exact this
theorem jR (hS:St w F ρ Ow h) (hO:OkO Ow w ρ h) {t el:TypeId} (hel:yo P t=some el) {ps:Array (Nat×Value)} {qs:List (Nat×V)}
 (hp:vg (fun (x:Nat×Value) (y:Nat×V)=>x.1=y.1∧RV w F ρ x.2 y.2) ps.toList qs) (hs0:zC P el≠0) (hs1:¬ qs.length*zC P el > 16777216) {css:List (List V)} (hf:vk (zC P el) 0 qs=some css) {es:List (List T)} {h':Heap} (hg:w4 h css=some (es,h')) {zs:List V} (hz:zeroOf P el=some zs) :
 xx P w F ρ Ow (Instr.buildSlice t qs.length ps) (.sl (nI Ow.N h') 0 qs.length (some qs.length)) (nH Ow.N h' (.ts (zC P el) es)):=by
 obtain⟨hty,_,_⟩:=xW hel;obtain⟨inf,z,i1,i2,i3,i4,i5⟩:=wT (w:=w) (F:=F) (ρ:=ρ) hz;have hszi:inf.size=zC P el:=by simp[zC,Program.cellsOf,i1]
 have harr:((Array.range (qs.length*zC P el)).map (z.cells[· % z.cells.size]!)).size=qs.length*zC P el:=by simp
 obtain⟨arr',us,e1,e2,e3,e4,e5,e6,e7,e8⟩:=ji (arr:=(Array.range (qs.length*zC P el)).map (z.cells[· % z.cells.size]!)) hp hf (by rw[harr];simp);obtain⟨F',k1,k2,k3,k4,k5⟩:=iX hS e3 hg;have harr':arr'.toList=us:=by
  apply List.ext_getElem?;intro m;rw[Array.getElem?_toList,e7];simp only[Nat.zero_mul,Nat.zero_le,true_and,Nat.zero_add,Nat.sub_zero]
  split
  · rfl
  · rename_i hm;rw[Array.getElem?_eq_none (by rw[harr];omega),List.getElem?_eq_none (by omega)]
 have hes:∀ e∈es,e.length=zC P el:=fun e he=>by
  obtain⟨i,hi⟩:=List.mem_iff_getElem?.1 he;have hil:=(List.getElem?_eq_some_iff.1 hi).1;have hc:=List.getElem?_eq_getElem (l:=css) (i:=i) (by omega);rw[k5 i _ _ hc hi];exact e5 _ (List.getElem_mem _)
 have hsz':arr'.size=qs.length*zC P el:=by rw[e2,harr]
 obtain⟨ρ',n1,n2,n3⟩:=aT (w:=w) (arr:=arr') (el:=el) (es:=es) (sz:=zC P el) k2 (eX hO hg) hes (by rw[hsz',k4,e6];exact Nat.le_refl _)
  (by rw[List.take_of_length_le (by rw[harr',k4,e6,e4];exact Nat.le_refl _),harr'];exact k1)
 refine⟨_,F',ρ',.slice (some ⟨w.heap.size,0,none⟩) qs.length qs.length,?_,?_,n1,k3.trans n2⟩
 · by_cases hl:qs.length=0
   · have hq:qs=[]:=List.eq_nil_of_length_eq_zero hl;subst hq
     cases hp':ps.toList with
     | cons x l=>rw[hp']at hp;cases hp
     | nil =>
      have ha:arr' = #[]:=by
       apply Array.ext';rw[harr'];exact List.eq_nil_of_length_eq_zero (by simpa using e4)
      simp only[List.length_nil,Nat.zero_mul]at e1;rw[hp']at e1;simp only[Instr.fill,Option.some.injEq]at e1;have hr0:∀ f:Nat→Value,Array.map f (Array.range 0) = #[]:=fun f=>by apply Array.ext';simp
      simp[Instr.buildSlice,zF hty,run_sizeOf i1,hp',Instr.fill,newRow,ha,hr0]
   · have hne:¬ qs.length*inf.size=0:=by
      rw[hszi];exact Nat.mul_ne_zero hl hs0
     exact run_buildSlice w t el qs.length ps arr' inf z hty i1 i2 (by rw[hszi];simpa using hs1) hne (by rw[hszi];exact e1)
 · refine .sl _ 0 _ _ _ _ _ n3 (.inl (by simp)) (Nat.le_refl _) (by simp[k4,e6]) (fun hcap=>by cases hcap) (fun k hk=>by cases hk;rfl) (fun _=>?_);simp only[Nat.zero_add];rw[hsz'];exact Nat.le_refl _
end Go.Proofs.YtefkoljdebekdaaGreatDoor.E

/- Joined: E12X E13 E14. Conditions: those of each lemma. -/
import Derived.Test.YtefkoljdebekdaaGreatDoorlF
set_option linter.unusedVariables false
set_option linter.unusedSimpArgs false
namespace Go.Proofs.YtefkoljdebekdaaGreatDoor.E
variable {P:Program} {w:World} {F:Nat→Prop} {ρ:yc} {Ow:Own} {h:Heap} {pol:Pol} {rec:Rec} {f:Nat} {N:Option Nat} {ops:Array Oper}
theorem bF {o:Oper}(h1:yo pol f o=true)(h2:okK pol f o=true):False:=by
 obtain⟨dst,op,ty,pos,after,guard⟩:=o
 cases op with
 | call c =>
  obtain⟨callee,args,tys⟩:=c
  cases callee with
  | builtin b=>cases b<;>simp[yo,okK]at h1 h2
  | value x=>cases hp:pol.pm f (dst.getD 0)<;>simp[yo,okK,hp]at h1 h2
  | invoke r m=>simp[okK]at h2
 | _=>simp[yo,okK]at h1 h2
theorem kZ {o:Oper}(hn:yo pol f o=true){e:Env}:yW P pol rec f N o e h=none:=by
 obtain⟨dst,op,ty,pos,after,guard⟩:=o
 cases op with
 | call c =>
  obtain⟨callee,args,tys⟩:=c
  cases callee with
  | builtin b=>cases b<;>simp[yo]at hn<;>simp[yW]
  | value x =>
   simp only[yo]at hn;unfold yW;simp only
   split
   · split
     · rename_i hp;rw[hp]at hn;cases hn
     · rename_i hp;rw[hp]at hn;cases hn
     · rfl
   · rfl
  | invoke r m=>simp[yo]at hn
 | _=>first|rfl|simp[yo]at hn
theorem pZ {o:Oper}(hn:yo pol f o=true){e:Env}:wD P pol rec f none o e h=zV P pol rec f none o e h:=by
 have hb:isB o=false:=by
  obtain⟨dst,op,ty,pos,after,guard⟩:=o
  cases op<;>first|rfl|simp[yo]at hn
 unfold wD;rw[kZ hn,show bN none o=none by unfold bN;rw[hb];rfl]
 split<;>rfl
def wK (P:Program)(pol:Pol)(rec:Rec)(f:Nat)(N:Option Nat)(ops:Array Oper)(o:Oper)(e:Env)(h:Heap):Option (V×Heap) :=
 match want ops o e with
 | some true=>wD P pol rec f N o e h
 | some false=>some (.und,h)
 | none=>none
theorem fJ (o:Oper)(e:Env):wq P pol rec f N ops o e h=match wK P pol rec f N ops o e h with|some (v,h')=>some (put e o.dst v,h')|none=>none:=by
 unfold wq wK
 cases want ops o e with
 | none=>rfl
 | some b=>cases b with
  | false=>rfl
  | true=>simp only;cases wD P pol rec f N o e h<;>rfl
theorem cg {o:Oper}(hn:okK pol f o=true){e e':Env}(hs:v7 ops o e e'):yW P pol rec f N o e h=yW P pol rec f N o e' h:=by
 have ho:∀ {x:Operand},x∈o.op.operands→∀ ty,opv P e ty x=opv P e' ty x:=fun hx ty=>hs.opv ty hx
 obtain⟨dst,op,ty,pos,after,guard⟩:=o
 cases op with
 | buildSlice t len parts =>
  simp only[yW]
  cases yu P t with
  | none=>rfl
  | some el=>simp only;rw[uB _ parts.toList fun x hx t=>ho (by simp only[Op.operands,List.mem_toArray];exact hx) t]
 | makeSlice t l c=>simp only[yW,ho (x:=l) (by simp[Op.operands]),ho (x:=c) (by simp[Op.operands])]
 | call c =>
  obtain⟨callee,args,tys⟩:=c
  cases callee with
  | builtin b =>
   simp only[yW];rw[vm args.toList tys.toList fun y hy ty=>ho (by simpa [Op.operands,Call.operands] using hy) ty]
  | value x =>
   simp only[yW];rw[vm args.toList tys.toList fun y hy ty=>ho (by simp[Op.operands,Call.operands];right;simpa using hy) ty,ho (x:=x) (by simp[Op.operands,Call.operands])]
  | invoke r m=>rfl
 | _=>rfl
theorem cu {o:Oper}(hn:okK pol f o=true){e e':Env}(hs:v7 ops o e e'):zV P pol rec f N o e h=zV P pol rec f N o e' h:=by
 by_cases hsf:soft pol f o=true
 · exact pY hsf hs
 · obtain⟨dst,op,ty,pos,after,guard⟩:=o
   cases op with
   | call c =>
    obtain⟨callee,args,tys⟩:=c
    cases callee with
    | builtin b=>cases b<;>simp[okK,soft,yo,xE]at hn hsf
    | value x =>
     have ho:opv P e 0 x=opv P e' 0 x:=hs.opv 0 (by simp[Op.operands,Call.operands]);simp only[zV,ho]
     cases fnV (opv P e' 0 x) with
     | none=>rfl
     | some y =>
      simp only[okK]at hn;have hargs:yn P e args.toList tys.toList=yn P e' args.toList tys.toList:=vm args.toList tys.toList fun y hy ty=>hs.opv ty (by simp[Op.operands,Call.operands];right;simpa using hy)
      cases hp:pol.pm f (dst.getD 0)<;>simp[hp]at hn
      · simp only[wZ,hp,hargs]
      · simp only[wZ,hp]
    | invoke r m=>simp[okK]at hn
   | _=>simp[okK,soft,yo,xE]at hn hsf
theorem xc {o:Oper}(hn:(yo pol f o=true∧N=none)∨okK pol f o=true){e e':Env}(hs:v7 ops o e e'):wK P pol rec f N ops o e h=wK P pol rec f N ops o e' h:=by
 unfold wK;rw[pG hs];rcases hn with⟨hn,rfl⟩|hn
 · rw[pZ hn,pZ hn,pY (by simp[soft,hn]) hs]
 · unfold wD;rw[cg hn hs,cu hn hs]
theorem ka {o:Oper}(hn:yo pol f o=true){e:Env}:wK P pol rec f none ops o e h=ev1 P pol rec f none ops o e h:=by
 unfold wK ev1;rw[pZ hn]
 all_goals rfl
def uk (fp:List Nat)(h h1:Heap):Prop:=∀ r,r<h.length→r∉fp→h1[r]? = h[r]?
theorem uk.app {fp:List Nat}{k:Heap}:uk fp h (h++k):=fun r hr _=>List.getElem?_append_left hr
theorem uk.loc {fp:List Nat}{h1 h2:Heap}{k:Heap}(hl:h1.length=h.length)(hk:uk fp h h1)(e:h2=h1++k):uk fp h h2:=fun r hr hn=>by
 rw[e,List.getElem?_append_left (by omega)];exact hk r hr hn
theorem Th {g:Nat}{args:List V}{v:V}{h1:Heap}(hev:nT rec g args h=some (v,h1)){fp:List Nat}:uk fp h h1:=by
 unfold nT at hev
 split at hev
 · split at hev
   · split at hev
     · unfold xa at hev
       split at hev
       · cases hev
       · cases hev;simp only[z6];exact uk.app
     · cases hev
   · cases hev
 · cases hev
theorem VQ {ty tx:TypeId}{s x v:V}{h h1:Heap}(hev:yp P ty tx s x h=some (v,h1)){fp:List Nat}(hs:∀ r∈refs s,r∈fp):uk fp h h1:=by
 unfold yp at hev
 split at hev
 · split at hev
   · rename_i r off len cap r2 off2 len2 cap2
     split at hev
     · split at hev
       · cases hev;refine uk.loc (h1:=h.set r .dead) (by simp) (fun k hk hn=>?_) rfl;exact List.getElem?_set_ne fun e:r=k=>hn (hs k (by simp[refs,e]))
       · cases hev
     · cases hev
   · cases hev
 · cases hev
theorem VR {ty tx:TypeId}{s x v:V}{h h1:Heap}(hev:yq P ty tx s x h=some (v,h1)){fp:List Nat}(hs:∀ r∈refs s,r∈fp)(hx:∀ r∈refs x,r∈fp):uk fp h h1:=by
 unfold yq at hev
 split at hev
 · split at hev
   · rename_i r off len cap r2 off2 len2 cap2
     split at hev
     · split at hev
       · cases hev;intro k hk hn;rw[List.getElem?_set_ne fun e:r2=k=>hn (hx k (by simp[refs,e])),List.getElem?_append_left (by simpa using hk)];exact List.getElem?_set_ne fun e:r=k=>hn (hs k (by simp[refs,e]))
       · cases hev
     · cases hev
   · cases hev
 · cases hev
theorem ec {ty tx:TypeId}{s x v:V}{h h1:Heap}(hev:(match yp P ty tx s x h with|some q=>some q|none=>yq P ty tx s x h)=some (v,h1)){fp:List Nat}(hs:∀ r∈refs s,r∈fp)(hx:∀ r∈refs x,r∈fp):uk fp h h1:=by
 split at hev
 · rename_i q hq;cases hev;exact VQ hq hs
 · exact VR hev hs hx
theorem qC {dst:Option Nat}{cl:Callee}{args:Array Operand}{tys:Array TypeId}{ty:TypeId}{pos:String}{after:Array Edge}{guard:Option (Nat×Bool)}{e:Env}{s:V}{r:Nat}(hm:s∈yn P e args.toList tys.toList)(hr:r∈refs s) :
 r∈yg none ⟨dst,.call ⟨cl,args,tys⟩,ty,pos,after,guard⟩ e h:=by
 have hx:∀ (xs:List Operand) (ts:List TypeId),s∈yn P e xs ts→∃ x∈xs,∃ t,s=opv P e t x:=by
  intro xs
  induction xs with
  | nil=>intro ts h;simp[yn]at h
  | cons y ys ih =>
   intro ts h
   cases ts with
   | nil =>
    simp only[yn,List.mem_cons]at h;rcases h with h|h
    · exact⟨y,by simp,0,h⟩
    · obtain⟨x,h1,t,h2⟩:=ih [] h;exact⟨x,by simp[h1],t,h2⟩
   | cons t ts =>
    simp only[yn,List.mem_cons]at h;rcases h with h|h
    · exact⟨y,by simp,t,h⟩
    · obtain⟨x,h1,t,h2⟩:=ih ts h;exact⟨x,by simp[h1],t,h2⟩
 obtain⟨x,h1,t,rfl⟩:=hx _ _ hm;refine su (P:=P) (ty:=t) ?_ hr
 cases cl<;>simp[Op.operands,Call.operands]<;>first|exact .inr (by simpa using h1)|simpa using h1
theorem VA {sz:Nat}{zs:List V}{r off len:Nat}{v:V}{h1:Heap}(hc:yG sz zs r off len h=some (v,h1)){fp:List Nat}(hs:r∈fp):uk fp h h1:=by
 have key:∀ b,h1=h.set r b→uk fp h h1:=fun b e k hk hn=>by
  rw[e];exact List.getElem?_set_ne fun e':r=k=>hn (e'▸hs)
 unfold yG at hc
 split at hc
 · split at hc
   · split at hc
     · cases hc;exact key _ rfl
     · cases hc
   · cases hc
 · split at hc
   · cases hc;exact key _ rfl
   · cases hc
 · cases hc
theorem Vz {t:TypeId}{x v:V}{h1:Heap}(hc:yC P t x h=some (v,h1)){fp:List Nat}(hs:∀ r∈refs x,r∈fp):uk fp h h1:=by
 unfold yC at hc
 split at hc
 · split at hc
   · cases hc;exact fun r _ _=>rfl
   · split at hc
     · exact VA hc (hs _ (by simp[refs]))
     · cases hc
   · cases hc
 · cases hc
theorem Us {o : Oper} (hn : okK pol f o = true) {e : Env} {v : V} {h1 : Heap} (hev : yW P pol rec f none o e h = some (v, h1)) : uk (yg none o e h) h h1 := by
 have hf:∀ {x:Operand} {ty:TypeId},x∈o.op.operands→∀ r∈refs (opv P e ty x),r∈yg none o e h:=fun hx r hr=>su hx hr
 obtain⟨dst,op,ty,pos,after,guard⟩:=o
 cases op with
 | buildSlice t len parts =>
  simp only[yW]at hev
  (repeat' split at hev)<;>first|(cases hev;done)|(cases hev;exact uk.app)
 | makeSlice t l c =>
  simp only[yW]at hev
  (repeat' split at hev)<;>first|(cases hev;done)|(cases hev;exact uk.app)
 | call c =>
  obtain⟨callee,args,tys⟩:=c
  cases callee with
  | builtin b =>
   simp only[yW]at hev
   split at hev
   · rename_i s x t u ha ht;have hs:∀ r∈refs s,r∈yg none ⟨dst,.call ⟨.builtin .append,args,tys⟩,ty,pos,after,guard⟩ e h:=fun r hr=>by
      have hm:s∈yn P e args.toList tys.toList:=by rw[ha];simp
      have:r∈refs.refss (yn P e args.toList tys.toList):=by rw[ha];simp[refs.refss,hr]
      unfold yg;refine List.mem_append.2 (.inr (mr ?_))
      have hx : ∀ (xs : List Operand) (ts : List TypeId), r ∈ refs.refss (yn P e xs ts) → r ∈ za e xs := by
       intro xs
       induction xs with
       | nil=>intro ts h;simp[yn,refs.refss]at h
       | cons y ys ih =>
        intro ts h;have key:∀ (ty:TypeId) ts',r∈refs (opv P e ty y)∨r∈refs.refss (yn P e ys ts')→r∈za e (y::ys):=fun ty ts' h=>by
         rcases h with h|h
         · obtain⟨t,rfl,ht⟩:=sn h;exact wA ht (by simp)
         · have:=ih ts' h
           cases y<;>simp only[za]<;>first|exact this|exact List.mem_append.2 (.inr this)
        cases ts with
        | nil=>simp only[yn,refs.refss,List.mem_append]at h;exact key 0 [] h
        | cons t ts=>simp only[yn,refs.refss,List.mem_append]at h;exact key t ts h
      have:=hx _ _ this;simpa [Op.operands,Call.operands] using this
     have hx:∀ r∈refs x,r∈yg none ⟨dst,.call ⟨.builtin .append,args,tys⟩,ty,pos,after,guard⟩ e h:=fun r hr=>qC (s:=x) (by rw[ha];simp) hr
     unfold yw at hev
     split at hev
     · rename_i sz;have hk:=ec (fp:=h.length::yg none ⟨dst,.call ⟨.builtin .append,args,tys⟩,ty,pos,after,guard⟩ e h) hev (fun r hr=>by simp[refs]at hr;simp[hr]) (fun r hr=>List.mem_cons_of_mem _ (hx r hr));intro r hr hn;have:=hk r (by simp;omega) (fun e=>(List.mem_cons.1 e).elim (fun e=>by omega) hn);rw[this,List.getElem?_append_left hr]
     · exact ec hev hs hx
   · rename_i x t ha ht;exact Vz hev fun r hr=>qC (s:=x) (by rw[ha];simp) hr
   · cases hev
  | value x =>
   simp only[yW]at hev
   split at hev
   · split at hev
     · exact Th hev
     · rename_i hp;simp[okK,hp]at hn
     · cases hev
   · cases hev
  | invoke r m=>simp[yW]at hev
 | _=>simp[yW]at hev
theorem Zd {ty tx : TypeId} {s x v : V} {h1 : Heap} (hc : app P none ty tx s x h = some (v, h1)) {fp : List Nat} (hs : ∀ r ∈ refs s, r ∈ fp) : uk fp h h1 := by
 unfold app at hc
 split at hc
 · cases hc
 · split at hc
   · cases hc
   · split at hc
     · split at hc
       · cases hc;simp only[nH];exact uk.app
       · cases hc
     · rename_i r off len cap
       split at hc
       · split at hc
         · cases hc;simp only[nH];refine uk.loc (h1:=h.set r .dead) (by simp) (fun k hk hn=>?_) rfl;exact List.getElem?_set_ne fun e:r=k=>hn (hs k (by simp[refs,e]))
         · cases hc
       · cases hc
     · cases hc
theorem Ti {tys:List TypeId}{args:List V}{v:V}{h1:Heap}(hc:blt P none .append tys args h=some (v,h1)){fp:List Nat}(hs:∀ s∈args,∀ r∈refs s,r∈fp):uk fp h h1:=by
 unfold blt at hc
 split at hc
 · rename_i hb;cases hb
 · split at hc
   · exact Zd hc (hs _ (by simp))
   · cases hc
 · rename_i hb;cases hb
 · rename_i hb;cases hb
 · cases hc
theorem hY {ids fp:List Nat}(hsub:∀ r∈ids,r∈fp){v v':V}{h1' h1:Heap}(hb:xa none ids v h1' h=some (v',h1)):uk fp h h1:=by
 unfold xa at hb
 split at hb
 · cases hb
 · cases hb;intro r hr hn;rw[List.getElem?_append_left (by rw[xh];exact hr),vq _ _ _ _ _ fun hx=>absurd (hsub r hx) hn]
theorem bE {o : Oper} (hn : okK pol f o = true) {e : Env} {v : V} {h1 : Heap} (hev : zV P pol rec f none o e h = some (v, h1)) : uk (yg none o e h) h h1 := by
 have hf:∀ {x:Operand} {ty:TypeId},x∈o.op.operands→∀ r∈refs (opv P e ty x),r∈yg none o e h:=fun hx r hr=>su hx hr
 obtain⟨dst,op,ty,pos,after,guard⟩:=o
 cases op with
 | alloc t =>
  simp only[zV]at hev
  (repeat' split at hev)<;>first|(cases hev;done)|(cases hev;exact uk.app)
 | box t x =>
  simp only[zV]at hev
  (repeat' split at hev)<;>first|(cases hev;done)|(cases hev;exact uk.app)
 | makeSlice t l c =>
  simp only[zV]at hev
  (repeat' split at hev)<;>first|(cases hev;done)|(cases hev;exact uk.app)
 | buildSlice t len parts =>
  simp only[zV]at hev
  split at hev
  · rename_i el hel
    split at hev
    · cases hev
    · split at hev
      · rename_i css hcs
        split at hev
        · rename_i es h' hg
          cases hev;have hsub:∀ r∈refs.refss css.flatten,r∈yg none ⟨dst,.buildSlice t len parts,ty,pos,after,guard⟩ e h:=fun r hr=>by
           obtain⟨u,hu,hr2⟩:=pX hcs r hr;obtain⟨x,t',hx,rfl⟩:=pQ hu;exact hf (x:=x) (ty:=t') (by simp only[Op.operands,List.mem_toArray];exact hx) r hr2
          obtain⟨h3,g1,g2⟩:=pW (fp:=yg none ⟨dst,.buildSlice t len parts,ty,pos,after,guard⟩ e h) rfl hsub (fun _ _=>rfl) hg;refine uk.loc (h1:=h') g2.l1 (fun k hk hn=>g2.off1 k hn) rfl
        · cases hev
      · cases hev
  · cases hev
 | call c =>
  obtain⟨callee,args,tys⟩:=c
  cases callee with
  | builtin b =>
   cases b<;>simp[okK]at hn
   simp only[zV]at hev;exact Ti hev fun s hm r hr=>qC hm hr
  | value x =>
   simp only[okK]at hn;simp only[zV]at hev
   split at hev
   · rename_i g caps hg
     cases hp:pol.pm f (dst.getD 0)<;>simp[hp]at hn
     · simp only[wZ,hp]at hev;have hsub:∀ r∈xI h (yn P e args.toList tys.toList++caps),r∈yg none ⟨dst,.call ⟨.value x,args,tys⟩,ty,pos,after,guard⟩ e h:=fun r hr=>by
        unfold yg pc;rw[if_pos (by simp[wQ])];refine List.mem_append.2 (.inr (pN h 3 _ _ (fun k hk=>?_) r hr));rw[wJ]at hk ⊢;rcases hk with hk|hk
        · cases hk
        · exact .inr (by simpa [Op.operands,Call.operands] using mD hg k hk)
       split at hev
       · rename_i v' h1' hr;exact hY hsub hev
       · cases hev
     · simp only[wZ,hp]at hev
       cases hev
   · cases hev
  | invoke r m=>simp[okK]at hn
 | _=>simp[okK]at hn
theorem Rh {o:Oper}(hn:okK pol f o=true){e:Env}{v:V}{h1:Heap}(hev:wK P pol rec f none ops o e h=some (v,h1)):uk (yg none o e h) h h1:=by
 unfold wK at hev
 split at hev
 · unfold wD at hev
   split at hev
   · split at hev
     · rename_i r hr;cases hev;exact Us hn hr
     · unfold bare at hev
       split at hev
       · exact bE hn hev
       · cases hev
   · exact bE hn hev
 · cases hev;exact fun r _ _=>rfl
 · cases hev
theorem ve {o:Oper}(hn:yo pol f o=true){e:Env}{v:V}{h':Heap}(hev:wK P pol rec f none ops o e h=some (v,h')):h'=h:=by
 rw[ka hn]at hev;exact ni hn hev
theorem Yy {o:Oper}(hn:yo pol f o=true){e:Env}{h2:Heap}(ha:∀ r∈yg none o e h,h2[r]? = h[r]?){v:V}(hev:wK P pol rec f none ops o e h=some (v,h)):wK P pol rec f none ops o e h2=some (v,h2):=by
 rw[ka hn]at hev ⊢;unfold ev1 at hev ⊢
 split at hev
 · exact bM hn ha hev
 · cases hev;rfl
 · cases hev
theorem UA {o:Oper}(hb:isB o=true)(hn:yo pol f o=true):False:=by
 obtain⟨dst,op,ty,pos,after,guard⟩:=o
 cases op<;>simp[isB]at hb<;>simp[yo]at hn
theorem mn {o:Oper}(hb:xT o=true)(hn:yo pol f o=true):False:=by
 obtain⟨dst,op,ty,pos,after,guard⟩:=o
 cases op with
 | call c =>
  obtain⟨callee,args,tys⟩:=c
  cases callee with
  | builtin b=>cases b<;>simp[xT]at hb<;>simp[yo]at hn
  | value x=>simp[xT]at hb
  | invoke r m=>simp[xT]at hb
 | _=>simp[xT]at hb
theorem UB {o:Oper}(hb:isB o=true)(ha:xT o=true):False:=by
 obtain⟨dst,op,ty,pos,after,guard⟩:=o
 cases op<;>simp[isB]at hb<;>simp[xT]at ha
theorem kr {o:Oper}(hb:isB o=true):okK pol f o=true:=by
 obtain⟨dst,op,ty,pos,after,guard⟩:=o
 cases op<;>simp[isB]at hb<;>simp[okK]
theorem ng {o:Oper}(hb:xT o=true):okK pol f o=true:=by
 obtain⟨dst,op,ty,pos,after,guard⟩:=o
 cases op with
 | call c =>
  obtain⟨callee,args,tys⟩:=c
  cases callee with
  | builtin b=>cases b<;>simp[xT]at hb<;>simp[okK]
  | value x=>simp[xT]at hb
  | invoke r m=>simp[xT]at hb
 | _=>simp[xT]at hb
theorem nf {o:Oper}(hb:isB o=true):wQ o=false:=by
 obtain⟨dst,op,ty,pos,after,guard⟩:=o
 cases op<;>simp[isB]at hb<;>simp[wQ]
theorem mo {o:Oper}(hb:xT o=true):wQ o=false:=by
 obtain⟨dst,op,ty,pos,after,guard⟩:=o
 cases op with
 | call c =>
  obtain⟨callee,args,tys⟩:=c
  cases callee with
  | builtin b=>simp[wQ]
  | value x=>simp[xT]at hb
  | invoke r m=>simp[xT]at hb
 | _=>simp[xT]at hb
theorem w6 {o:Oper}(hd:wQ o=false){e:Env}{h2:Heap}:yg N o e h=yg N o e h2:=by
 unfold yg pc;rw[hd];rfl
def mI (h:Heap)(k:Nat):Option Blk→Heap
 | some b=>h.set k b
 | none=>h
theorem jC {k:Nat}{b:Option Blk}:(mI h k b).length=h.length:=by cases b<;>simp[mI]
theorem Ui {k r:Nat}{b:Option Blk}(hr:r≠k):(mI h k b)[r]? = h[r]? := by
 cases b with
 | none=>rfl
 | some b=>exact List.getElem?_set_ne fun e=>hr e.symm
theorem VU (hown : pol.own f = true) {o : Oper} (hb : isB o = true) {k : Nat} {e : Env} {v : V} {h1 : Heap} (hev : wK P pol rec f (some k) ops o e h = some (v, h1)) :
 ∃ b:Option Blk,h1=mI h k b∧∀ h':Heap,wK P pol rec f (some k) ops o e h'=some (v,mI h' k b):=by
 unfold wK at hev ⊢
 split at hev
 · unfold wD at hev ⊢;rw[if_pos hown]at hev;obtain⟨dst,op,ty,pos,after,guard⟩:=o
   cases op with
   | buildSlice t len parts =>
    simp only[yW,bN,isB,if_true,bare]at hev;simp only[hown,if_true,yW,bN,isB,bare]
    split at hev
    · rename_i r hr
      cases hev
      split at hr
      · split at hr
        · cases hr
        · rename_i el hel hc
          split at hr
          · rename_i css hf
            cases hr;exact⟨some _,rfl,fun h'=>by simp only[hc,if_false,nI,nH,mI]⟩
          · cases hr
      · cases hr
    · cases hev
   | _=>simp[isB]at hb
 · cases hev;exact⟨none,rfl,fun h'=>rfl⟩
 · cases hev
theorem nq {k:Nat}{b:Blk}(hk:k<h.length)(l:Heap):h.set k b++l=(h++l).set k b:=(List.set_append_left _ _ hk).symm
theorem Tq {k:Nat}{b:Blk}(hk:k<h.length){ty tx:TypeId}{s x:V}(hs:k∉refs s)(hx:k∉refs x):yp P ty tx s x (h.set k b)=(yp P ty tx s x h).map fun q=>(q.1,q.2.set k b):=by
 unfold yp
 split
 · split
   · rename_i r off len cap r2 off2 len2 cap2;have e1:r≠k:=fun e=>hs (by simp[refs,e])
     have e2:r2≠k:=fun e=>hx (by simp[refs,e])
     rw[List.getElem?_set_ne (Ne.symm e1),List.getElem?_set_ne (Ne.symm e2)];generalize h[r]? = y1;generalize h[r2]? = y2;rcases y1 with _|y1
     · rfl
     cases y1<;>try rfl
     rcases y2 with _|y2
     · rfl
     cases y2<;>try rfl
     simp only
     split
     · simp only[Option.map_some,List.length_set];rw[List.set_comm _ _ (Ne.symm e1),nq (by simpa using hk)]
     · rfl
   · rfl
 · rfl
theorem Tt {k:Nat}{b:Blk}(hk:k<h.length){ty tx:TypeId}{s x:V}(hs:k∉refs s)(hx:k∉refs x):yq P ty tx s x (h.set k b)=(yq P ty tx s x h).map fun q=>(q.1,q.2.set k b):=by
 unfold yq
 split
 · split
   · rename_i r off len cap r2 off2 len2 cap2;have e1:r≠k:=fun e=>hs (by simp[refs,e])
     have e2:r2≠k:=fun e=>hx (by simp[refs,e])
     rw[List.getElem?_set_ne (Ne.symm e1),List.getElem?_set_ne (Ne.symm e2)];generalize h[r]? = y1;generalize h[r2]? = y2;rcases y1 with _|y1
     · rfl
     cases y1<;>try rfl
     rcases y2 with _|y2
     · rfl
     cases y2<;>try rfl
     simp only
     split
     · simp only[Option.map_some,List.length_set];rw[List.set_comm _ _ (Ne.symm e1),nq (by simpa using hk),List.set_comm _ _ (Ne.symm e2)]
     · rfl
   · rfl
 · rfl
theorem Ze {k:Nat}{b:Blk}(hk:k<h.length){ty tx:TypeId}{s x:V}(hs:k∉refs s)(hx:k∉refs x) :
 (match yp P ty tx s x (h.set k b) with|some q=>some q|none=>yq P ty tx s x (h.set k b))=Option.map (fun q:V×Heap=>(q.1,q.2.set k b)) (match yp P ty tx s x h with|some q=>some q|none=>yq P ty tx s x h):=by
 rw[Tq hk hs hx,Tt hk hs hx]
 cases yp P ty tx s x h<;>rfl
theorem Ts {k:Nat}{b:Blk}(hk:k<h.length){ty tx:TypeId}{s x:V}(hs:k∉refs s)(hx:k∉refs x):yw P ty tx s x (h.set k b)=(yw P ty tx s x h).map fun q=>(q.1,q.2.set k b):=by
 cases s with
 | nil sz =>
  simp only[yw,List.length_set];rw[nq hk];exact Ze (by simp;omega) (by simp only[refs,List.mem_singleton];omega) hx
 | _=>exact Ze hk hs hx
theorem QU {k:Nat}{b:Blk}(hk:k<h.length){ty tx:TypeId}{s x:V}(hs:k∉refs s)(hx:k∉refs x):app P none ty tx s x (h.set k b)=(app P none ty tx s x h).map fun q=>(q.1,q.2.set k b):=by
 unfold app
 split
 · rfl
 · rw[gq (h:=h) (h2:=h.set k b) fun r hr=>List.getElem?_set_ne fun e:k=r=>hx (by rw[e,← jH];first|exact hr|(rw[jH];exact hr))]
   split
   · rfl
   · split
     · split
       · simp only[Option.map_some,nI,nH,List.length_set];rw[nq hk]
       · rfl
     · rename_i r off len cap;have e1:r≠k:=fun e=>hs (by simp[refs,e])
       rw[List.getElem?_set_ne (Ne.symm e1)];generalize h[r]? = y1;rcases y1 with _|y1
       · rfl
       cases y1<;>try rfl
       simp only
       split
       · simp only[Option.map_some,nI,nH,List.length_set];rw[List.set_comm _ _ (Ne.symm e1),nq (by simpa using hk)]
       · rfl
     · rfl
theorem Pe {o:Oper}(ha:xT o=true){k:Nat}{b:Option Blk}{e:Env}(hk:k<h.length)(hf:k∉yg none o e h) :
 wK P pol rec f none ops o e (mI h k b)=(wK P pol rec f none ops o e h).map fun q=>(q.1,mI q.2 k b):=by
 cases b with
 | none=>simp only[mI];cases wK P pol rec f none ops o e h<;>rfl
 | some b =>
  simp only[mI];unfold wK
  split
  · obtain⟨dst,op,ty,pos,after,guard⟩:=o
    cases op with
    | call c =>
     obtain⟨callee,args,tys⟩:=c
     cases callee with
     | builtin bt =>
      cases bt<;>simp[xT]at ha
      have hr:∀ s,s∈yn P e args.toList tys.toList→k∉refs s:=fun s hs hm=>hf (qC hs hm)
      have hO:yW P pol rec f none ⟨dst,.call ⟨.builtin .append,args,tys⟩,ty,pos,after,guard⟩ e (h.set k b)=(yW P pol rec f none ⟨dst,.call ⟨.builtin .append,args,tys⟩,ty,pos,after,guard⟩ e h).map fun q=>(q.1,q.2.set k b):=by
       simp only[yW];generalize yn P e args.toList tys.toList=xs at *;generalize tys.toList=ts at *;rcases xs with _|⟨s,_|⟨x,_|⟨y,xs⟩⟩⟩<;>rcases ts with _|⟨t,_|⟨u,_|⟨y',ts⟩⟩⟩<;>try rfl
       exact Ts hk (hr _ (by simp)) (hr _ (by simp))
      have hE:zV P pol rec f none ⟨dst,.call ⟨.builtin .append,args,tys⟩,ty,pos,after,guard⟩ e (h.set k b)=(zV P pol rec f none ⟨dst,.call ⟨.builtin .append,args,tys⟩,ty,pos,after,guard⟩ e h).map fun q=>(q.1,q.2.set k b):=by
       simp only[zV];unfold blt;generalize yn P e args.toList tys.toList=xs at *;generalize tys.toList=ts at *;rcases xs with _|⟨s,_|⟨x,_|⟨y,xs⟩⟩⟩<;>rcases ts with _|⟨t,_|⟨u,_|⟨y',ts⟩⟩⟩<;>first|rfl|exact QU hk (hr _ (by simp)) (hr _ (by simp))
      unfold wD;rw[hO,hE];simp only[bN,isB,Bool.false_eq_true,if_false,bare]
      split
      · cases yW P pol rec f none ⟨dst,.call ⟨.builtin .append,args,tys⟩,ty,pos,after,guard⟩ e h<;>rfl
      · rfl
     | value x=>simp[xT]at ha
     | invoke r m=>simp[xT]at ha
    | _=>simp[xT]at ha
  · rfl
  · rfl
theorem ee {k : Nat} {ty tx : TypeId} {s x v : V} {h1 : Heap} (hd : h[k]? = some .dead) (hev : (match yp P ty tx s x h with | some q => some q | none => yq P ty tx s x h) = some (v, h1)) : h1[k]? = some .dead := by
 have hk:=(List.getElem?_eq_some_iff.1 hd).1
 split at hev
 · rename_i q hq
   cases hev;unfold yp at hq
   split at hq
   · split at hq
     · split at hq
       · rename_i sz es sz2 es2 h1 h2
         split at hq
         · cases hq;rw[List.getElem?_append_left (by simpa using hk)];exact rT hd h1 (by simp)
         · cases hq
       · cases hq
     · cases hq
   · cases hq
 · rename_i hq;unfold yq at hev
   split at hev
   · split at hev
     · split at hev
       · rename_i sz es sz2 es2 h1 h2
         split at hev
         · cases hev;rw[List.getElem?_set_ne (fun e=>by subst e;rw[hd]at h2;cases h2),List.getElem?_append_left (by simpa using hk)];exact rT hd h1 (by simp)
         · cases hev
       · cases hev
     · cases hev
   · cases hev
theorem Ri {o : Oper} (hs : qV pol f o = true) {e : Env} {v : V} {h1 : Heap} (hev : wK P pol rec f N ops o e h = some (v, h1)) {k : Nat} (hd : h[k]? = some .dead) (hne : N ≠ some k) : h1[k]? = some .dead := by
 unfold wK at hev
 split at hev
 · unfold wD at hev
   split at hev
   · split at hev
     · rename_i r hr
       cases hev
       by_cases hn:yo pol f o=true
       · rw[kZ hn]at hr;cases hr
       · simp only[qV,hn,Bool.false_or,Bool.or_eq_true]at hs;obtain⟨dst,op,ty,pos,after,guard⟩:=o
         cases op with
         | buildSlice t len parts =>
          simp only[yW]at hr
          (repeat' split at hr)<;>first|(cases hr;done)|(cases hr;exact r7 hd hne)
         | call c =>
          obtain⟨callee,args,tys⟩:=c
          cases callee with
          | builtin b =>
           cases b<;>simp[isB,xT,nB]at hs
           simp only[yW]at hr;generalize yn P e args.toList tys.toList=xs at *;generalize tys.toList=ts at *;rcases xs with _|⟨s,_|⟨x,_|⟨y,xs⟩⟩⟩<;>rcases ts with _|⟨t,_|⟨u,_|⟨y',ts⟩⟩⟩<;>try (cases hr;done)
           simp only[yw]at hr
           split at hr
           · exact ee (by rw[List.getElem?_append_left (List.getElem?_eq_some_iff.1 hd).1];exact hd) hr
           · exact ee hd hr
          | value x=>simp[isB,xT,nB]at hs
          | invoke r m=>simp[isB,xT,nB]at hs
         | store t x y=>simp[yW]at hr
         | _=>simp[isB,xT,nB]at hs
     · unfold bare at hev
       split at hev
       · exact mw hev hd hne
       · cases hev
   · exact mw hev hd hne
 · cases hev;exact hd
 · cases hev
theorem cM {o:Oper}(hn:okK pol f o=true)(hB:∀ k,N=some k→isB o=true∧pol.own f=true){e:Env}{v:V}{h1:Heap}(hev:wK P pol rec f N ops o e h=some (v,h1)) :
 ∀ r,(N.isSome=true∨r<h.length)→r∉yg N o e h→h1[r]? = h[r]? := fun r hr hf=>by
 cases N with
 | none =>
  rcases hr with hr|hr
  · cases hr
  · exact Rh hn hev r hr hf
 | some k =>
  obtain⟨b1,b2⟩:=hB k rfl;obtain⟨b,rfl,_⟩:=VU b2 b1 hev;exact Ui fun e=>hf (by simp[yg,e])
theorem wz {o:Oper}(hn:yo pol f o=true)(hB:∀ k,N=some k→isB o=true∧pol.own f=true):N=none:=by
 cases N with
 | none=>rfl
 | some k=>exact (UA (hB k rfl).1 hn).elim
theorem uU {o:Oper}(hc:ry o=true):yo pol f o=true:=by
 obtain⟨dst,op,ty,pos,after,guard⟩:=o
 cases op<;>simp[ry]at hc<;>simp[yo]
theorem jf {o:Oper}(hc:ry o=true):wQ o=false:=by
 obtain⟨dst,op,ty,pos,after,guard⟩:=o
 cases op<;>simp[ry]at hc<;>simp[wQ]
theorem Oq {h2:Heap}{ty:TypeId}{x:V}{lo hi mx:Option V}(ha:∀ r∈refs x,(h2[r]?.bind xF)=(h[r]?.bind xF)):cut P ty x lo hi mx h2=cut P ty x lo hi mx h:=by
 cases x with
 | sl r off len cap=>simp only[cut,ha r (by simp[refs])]
 | t y=>cases y<;>rfl
 | _=>rfl
theorem Tx {o:Oper}(hc:ry o=true){e:Env}{h2:Heap}(ha:∀ r∈yg none o e h,(h2[r]?.bind xF)=(h[r]?.bind xF)){v:V}(hev:wK P pol rec f none ops o e h=some (v,h)):wK P pol rec f none ops o e h2=some (v,h2):=by
 rw[ka (uU hc)]at hev ⊢;unfold ev1 at hev ⊢
 split at hev
 · obtain⟨dst,op,ty,pos,after,guard⟩:=o
   cases op with
   | slice t x lo hi mx =>
    simp only[zV]at hev ⊢;rw[Oq (h:=h) fun r hr=>ha r (su (P:=P) (ty:=t) (by cases lo<;>cases hi<;>cases mx<;>simp[Op.operands]) hr)]
    split at hev
    · cases hev;rfl
    · cases hev
   | _=>simp[ry]at hc
 · cases hev;rfl
 · cases hev
theorem P1 {dst:Option Nat} {b:Builtin} {args:Array Operand} {tys:Array TypeId} {ty:TypeId} {pos:String} {after:Array Edge} {guard:Option (Nat×Bool)} {e:Env} {r off len:Nat} {cap:Option Nat} {l:List V}
 (hx:yn P e args.toList tys.toList=.sl r off len cap::l):(yg none ⟨dst,.call ⟨.builtin b,args,tys⟩,ty,pos,after,guard⟩ e h).head? = some r:=by
 have key:∃ t ys,args.toList=.tmp t::ys∧e t=.sl r off len cap:=by
  cases hau:args.toList with
  | nil=>rw[hau]at hx;simp[yn]at hx
  | cons y ys =>
   rw[hau]at hx;have hy:∃ t,opv P e t y=.sl r off len cap:=by
    cases hts:tys.toList with
    | nil=>rw[hts]at hx;simp only[yn,List.cons.injEq]at hx;exact⟨_,hx.1⟩
    | cons t ts=>rw[hts]at hx;simp only[yn,List.cons.injEq]at hx;exact⟨_,hx.1⟩
   obtain⟨t,ht⟩:=hy;obtain⟨u,rfl,_⟩:=sn (P:=P) (e:=e) (ty:=t) (x:=y) (r:=r) (by rw[ht];simp[refs]);exact⟨u,ys,rfl,ht⟩
 obtain⟨t,ys,h1,h2⟩:=key;unfold yg pc;simp[wQ,Op.operands,Call.operands,h1,za,h2,refs]
theorem Wp {k : Nat} {ty tx : TypeId} {s x v : V} {h1 : Heap} (hk : k < h.length) (hs : k ∉ refs s) (hev : (match yp P ty tx s x h with | some q => some q | none => yq P ty tx s x h) = some (v, h1)) : (h1[k]?.bind xF) = (h[k]?.bind xF) := by
 split at hev
 · rename_i q hq
   cases hev;unfold yp at hq
   split at hq
   · split at hq
     · rename_i r off len cap r2 off2 len2 cap2;have e1:r≠k:=fun e=>hs (by simp[refs,e])
       split at hq
       · split at hq
         · cases hq;rw[List.getElem?_append_left (by simpa using hk),List.getElem?_set_ne e1]
         · cases hq
       · cases hq
     · cases hq
   · cases hq
 · rename_i hq;unfold yq at hev
   split at hev
   · split at hev
     · rename_i r off len cap r2 off2 len2 cap2;have e1:r≠k:=fun e=>hs (by simp[refs,e])
       split at hev
       · rename_i sz es sz2 es2 g1 g2
         split at hev
         · rename_i hcond
           cases hev
           by_cases e2:r2=k
           · subst e2;rw[List.getElem?_set_self (by simp;omega),g2];simp[xF,hcond.2.1]
           · rw[List.getElem?_set_ne e2,List.getElem?_append_left (by simpa using hk),List.getElem?_set_ne e1]
         · cases hev
       · cases hev
     · cases hev
   · cases hev
theorem QX {ty tx:TypeId}{s x v:V}{h1:Heap}(hev:(match yp P ty tx s x h with|some q=>some q|none=>yq P ty tx s x h)=some (v,h1)):∃ r off len cap,s=.sl r off len cap:=by
 split at hev
 · rename_i q hq;unfold yp at hq
   split at hq
   · split at hq
     · exact⟨_,_,_,_,rfl⟩
     · cases hq
   · cases hq
 · unfold yq at hev
   split at hev
   · split at hev
     · exact⟨_,_,_,_,rfl⟩
     · cases hev
   · cases hev
theorem OY {ty tx:TypeId}{s x v:V}{h1:Heap}(hev:app P N ty tx s x h=some (v,h1)):(∃ sz,s=.nil sz)∨∃ r off len cap,s=.sl r off len cap:=by
 unfold app at hev
 split at hev
 · cases hev
 · split at hev
   · cases hev
   · split at hev
     · exact .inl ⟨_,rfl⟩
     · exact .inr ⟨_,_,_,_,rfl⟩
     · cases hev
theorem SA {k:Nat}{ty tx:TypeId}{s x v:V}{h1:Heap}(hk:k<h.length)(hs:k∉refs s)(hev:app P none ty tx s x h=some (v,h1)):(h1[k]?.bind xF)=(h[k]?.bind xF):=by
 have:=Zd (fp:=refs s) hev (fun r hr=>hr) k hk hs;rw[this]
theorem cN {o : Oper} (ha : xT o = true) {k : Nat} {e : Env} {v : V} {h1 : Heap} (hk : k < h.length) (hf : (yg none o e h).head? ≠ some k) (hev : wK P pol rec f none ops o e h = some (v, h1)) : (h1[k]?.bind xF) = (h[k]?.bind xF) := by
 unfold wK at hev
 split at hev
 · obtain⟨dst,op,ty,pos,after,guard⟩:=o
   cases op with
   | call c =>
    obtain⟨callee,args,tys⟩:=c
    cases callee with
    | builtin bt =>
     cases bt<;>simp[xT]at ha
     have hr:∀ s l,yn P e args.toList tys.toList=s::l→(∃ sz,s=.nil sz)∨(∃ r off len cap,s=.sl r off len cap)→k∉refs s:=fun s l hx hs hm=>by
      rcases hs with⟨sz,rfl⟩|⟨r,off,len,cap,rfl⟩
      · simp[refs]at hm
      · simp[refs]at hm;subst hm;exact hf (P1 hx)
     have hO:∀ q,yW P pol rec f none ⟨dst,.call ⟨.builtin .append,args,tys⟩,ty,pos,after,guard⟩ e h=some q→(q.2[k]?.bind xF)=(h[k]?.bind xF):=fun q hq=>by
      obtain⟨v',h'⟩:=q;simp only[yW]at hq;generalize yn P e args.toList tys.toList=xs at *;generalize tys.toList=ts at *;rcases xs with _|⟨s,_|⟨x,_|⟨y,xs⟩⟩⟩<;>rcases ts with _|⟨t,_|⟨u,_|⟨y',ts⟩⟩⟩<;>try (cases hq;done)
      cases s with
      | nil sz =>
       simp only[yw]at hq;have:=Wp (k:=k) (by simp;omega) (by simp only[refs,List.mem_singleton];omega) hq;rw[List.getElem?_append_left hk]at this;exact this
      | sl r off len cap=>exact Wp hk (hr _ _ rfl (.inr ⟨_,_,_,_,rfl⟩)) hq
      | _ =>
       obtain⟨_,_,_,_,hx⟩:=QX hq
       cases hx
     have hE:∀ q,zV P pol rec f none ⟨dst,.call ⟨.builtin .append,args,tys⟩,ty,pos,after,guard⟩ e h=some q→(q.2[k]?.bind xF)=(h[k]?.bind xF):=fun q hq=>by
      obtain⟨v',h'⟩:=q;simp only[zV]at hq;unfold blt at hq;generalize yn P e args.toList tys.toList=xs at *;generalize tys.toList=ts at *;rcases xs with _|⟨s,_|⟨x,_|⟨y,xs⟩⟩⟩<;>rcases ts with _|⟨t,_|⟨u,_|⟨y',ts⟩⟩⟩<;>try (cases hq;done)
      cases s with
      | nil sz=>exact SA hk (hr _ _ rfl (.inl ⟨_,rfl⟩)) hq
      | sl r off len cap=>exact SA hk (hr _ _ rfl (.inr ⟨_,_,_,_,rfl⟩)) hq
      | _ =>
       rcases OY hq with⟨_,hx⟩|⟨_,_,_,_,hx⟩<;>cases hx
     unfold wD at hev
     split at hev
     · split at hev
       · rename_i q hq;cases hev;exact hO _ hq
       · simp only[bN,isB,Bool.false_eq_true,if_false,bare]at hev;exact hE _ hev
     · exact hE _ hev
    | value x=>simp[xT]at ha
    | invoke r m=>simp[xT]at ha
   | _=>simp[xT]at ha
 · cases hev;rfl
 · cases hev
theorem mm {o:Oper}(hc:je o=true):yo pol f o=true:=by
 obtain⟨dst,op,ty,pos,after,guard⟩:=o
 cases op<;>simp[je]at hc<;>simp[yo]
theorem gX {o:Oper}(hc:je o=true):wQ o=false:=by
 obtain⟨dst,op,ty,pos,after,guard⟩:=o
 cases op<;>simp[je]at hc<;>simp[wQ]
theorem Pd {o:Oper}(hc:je o=true){e:Env}{h2:Heap}{v:V}(hev:wK P pol rec f none ops o e h=some (v,h)):wK P pol rec f none ops o e h2=some (v,h2):=by
 rw[ka (mm hc)]at hev ⊢;unfold ev1 at hev ⊢
 split at hev
 · obtain⟨dst,op,ty,pos,after,guard⟩:=o
   cases op with
   | move x=>simp only[zV]at hev ⊢;cases hev;rfl
   | assign x=>simp only[zV]at hev ⊢;cases hev;rfl
   | _=>simp[je]at hc
 · cases hev;rfl
 · cases hev
theorem gk {o:Oper}(hn:nB o=true){e e':Env}(hs:v7 ops o e e'):wK P pol rec f N ops o e h=wK P pol rec f N ops o e' h:=by
 unfold wK;rw[pG hs];have hq:wD P pol rec f N o e h=wD P pol rec f N o e' h:=by
  obtain⟨dst,op,ty,pos,after,guard⟩:=o
  cases op with
  | store t a x =>
   have h1:opv P e 0 a=opv P e' 0 a:=hs.opv 0 (by simp[Op.operands]);have h2:opv P e t x=opv P e' t x:=hs.opv t (by simp[Op.operands]);simp only[wD,yW,zV,h1,h2]
  | _=>simp[nB]at hn
 rw[hq]
theorem Rf {a b:Oper} {Na Nb:Option Nat} (hap:a.apart ops b=true) (hBa:∀ k,Na=some k→isB a=true∧pol.own f=true) (hBb:∀ k,Nb=some k→isB b=true∧pol.own f=true) {e:Env} {va vb:V} {h1 h2:Heap}
 (hc:(yo pol f a=true∧yo pol f b=true)∨(yo pol f a=true∧okK pol f b=true∧∀ r∈yg Na a e h,(Nb.isSome=true∨r<h.length)∧r∉yg Nb b (put e a.dst va) h1) ∨
  (okK pol f a=true∧yo pol f b=true∧∀ r∈yg Nb b (put e a.dst va) h1,(Na.isSome=true∨r<h.length)∧r∉yg Na a e h) ∨
  (∃ k k',Na=some k∧Nb=some k'∧k≠k')∨(∃ k,Na=some k∧Nb=none∧xT b=true∧k∉yg Nb b (put e a.dst va) h1∧k<h.length) ∨
  (∃ k,Nb=some k∧Na=none∧xT a=true∧k∉yg Na a e h∧k<h.length) ∨
  (ry a=true∧xT b=true∧Nb=none∧∀ r∈yg Na a e h,r<h.length∧(yg Nb b (put e a.dst va) h1).head? ≠ some r) ∨
  (xT a=true∧ry b=true∧Na=none∧∀ r∈yg Nb b (put e a.dst va) h1,r<h.length∧(yg Na a e h).head? ≠ some r) ∨
  (je a=true∧nB b=true)∨(nB a=true∧je b=true))
 (h1e:wK P pol rec f Na ops a e h=some (va,h1)) (h2e:wK P pol rec f Nb ops b (put e a.dst va) h1=some (vb,h2)) :
 ∃ h3,wK P pol rec f Nb ops b e h=some (vb,h3)∧wK P pol rec f Na ops a (put e b.dst vb) h3=some (va,h2)∧yg Nb b e h=yg Nb b (put e a.dst va) h1∧yg Na a (put e b.dst vb) h3=yg Na a e h ∧
  (yo pol f b=true∨Nb.isSome=true∨h.length=h1.length)∧(yo pol f a=true∨Na.isSome=true∨h3.length=h.length):=by
 obtain⟨k1,k2,k3⟩:=Oper.apart_spec hap;have s1:v7 ops b (put e a.dst va) e:=fun t ht=>kf fun hx=>k1 t hx ht
 have s2:v7 ops a (put e b.dst vb) e:=fun t ht=>kf fun hx=>k3 t hx ht
 rw[xe s1]at hc ⊢;rcases hc with⟨hna,hnb⟩|⟨hna,hkb,hd⟩|⟨hka,hnb,hd⟩|⟨k,k',rfl,rfl,hkk⟩|⟨k,rfl,rfl,hpb,hkf,hkl⟩|⟨k,rfl,rfl,hpa,hkf,hkl⟩|⟨hca,hpb,rfl,hd⟩|⟨hpa,hcb,rfl,hd⟩|⟨hma,hsb⟩|⟨hsa,hmb⟩
 · obtain rfl:=wz hna hBa;obtain rfl:=wz hnb hBb;have e1:=ve hna h1e;subst e1;have e2:=ve hnb h2e;subst e2;rw[xc (.inl ⟨hnb,rfl⟩) s1]at h2e;exact⟨h2,h2e,by rw[xc (.inl ⟨hna,rfl⟩) s2];exact h1e,rfl,xe s2,.inl hnb,.inl hna⟩
 · obtain rfl:=wz hna hBa;have e1:=ve hna h1e;subst e1;rw[xc (.inr hkb) s1]at h2e;have hk:=cM hkb hBb h2e;have ag:∀ r∈yg none a e h1,h2[r]? = h1[r]? := fun r hr=>hk r (hd r hr).1 (hd r hr).2
   exact⟨h2,h2e,by rw[xc (.inl ⟨hna,rfl⟩) s2];exact Yy hna ag h1e,rfl,(xe s2).trans (nh ag),.inr (.inr rfl),.inl hna⟩
 · obtain rfl:=wz hnb hBb;have e2:=ve hnb h2e;subst e2;rw[xc (.inl ⟨hnb,rfl⟩) s1]at h2e;have hk:=cM hka hBa h1e;have ag:∀ r∈yg none b e h2,h[r]? = h2[r]? := fun r hr=>(hk r (hd r hr).1 (hd r hr).2).symm
   exact⟨h,Yy hnb ag h2e,by rw[xc (.inr hka) s2];exact h1e,nh ag,xe s2,.inl hnb,.inr (.inr rfl)⟩
 · obtain⟨a1,a2⟩:=hBa k rfl;obtain⟨b1,b2⟩:=hBb k' rfl;obtain⟨x,rfl,hx⟩:=VU a2 a1 h1e;rw[xc (.inr (kr b1)) s1]at h2e;obtain⟨y,rfl,hy⟩:=VU b2 b1 h2e;refine⟨mI h k' y,hy h,?_,w6 (nf b1),(xe s2).trans (w6 (nf a1)),.inr (.inl rfl),.inr (.inl rfl)⟩;rw[xc (.inr (kr a1)) s2,hx]
   cases x<;>cases y<;>simp only[mI]
   rw[List.set_comm _ _ (Ne.symm hkk)]
 · obtain⟨a1,a2⟩:=hBa k rfl;obtain⟨x,rfl,hx⟩:=VU a2 a1 h1e;rw[xc (.inr (ng hpb)) s1,Pe hpb hkl (by rw[w6 (mo hpb) (h2:=mI h k x)];exact hkf)]at h2e
   cases hq:wK P pol rec f none ops b e h with
   | none=>rw[hq]at h2e;cases h2e
   | some q =>
    rw[hq]at h2e
    cases h2e;refine⟨q.2,rfl,?_,w6 (mo hpb),(xe s2).trans (w6 (nf a1)),.inr (.inr jC.symm),.inr (.inl rfl)⟩;rw[xc (.inr (kr a1)) s2,hx]
 · obtain⟨b1,b2⟩:=hBb k rfl;rw[xc (.inr (kr b1)) s1]at h2e;obtain⟨y,rfl,hy⟩:=VU b2 b1 h2e;refine⟨mI h k y,hy h,?_,w6 (nf b1),(xe s2).trans (w6 (mo hpa)),.inr (.inl rfl),.inr (.inr jC)⟩;rw[xc (.inr (ng hpa)) s2,Pe hpa hkl hkf,h1e];rfl
 · have hna:=uU (pol:=pol) (f:=f) hca;obtain rfl:=wz hna hBa;have e1:=ve hna h1e;subst e1;rw[xc (.inr (ng hpb)) s1]at h2e;exact⟨h2,h2e,by rw[xc (.inl ⟨hna,rfl⟩) s2];exact Tx hca (fun r hr=>cN hpb (hd r hr).1 (hd r hr).2 h2e) h1e,rfl,(xe s2).trans (w6 (jf hca)),.inr (.inr rfl),.inl hna⟩
 · have hnb:=uU (pol:=pol) (f:=f) hcb;obtain rfl:=wz hnb hBb;have e2:=ve hnb h2e;subst e2;rw[xc (.inl ⟨hnb,rfl⟩) s1]at h2e;exact⟨h,Tx hcb (fun r hr=>(cN hpa (hd r hr).1 (hd r hr).2 h1e).symm) h2e,by rw[xc (.inr (ng hpa)) s2];exact h1e,w6 (jf hcb),xe s2,.inl hnb,.inr (.inr rfl)⟩
 · have hna:=mm (pol:=pol) (f:=f) hma;obtain rfl:=wz hna hBa;have e1:=ve hna h1e;subst e1;rw[gk hsb s1]at h2e;exact⟨h2,h2e,by rw[xc (.inl ⟨hna,rfl⟩) s2];exact Pd hma h1e,rfl,(xe s2).trans (w6 (gX hma)),.inr (.inr rfl),.inl hna⟩
 · have hnb:=mm (pol:=pol) (f:=f) hmb;obtain rfl:=wz hnb hBb;have e2:=ve hnb h2e;subst e2;rw[xc (.inl ⟨hnb,rfl⟩) s1]at h2e;exact⟨h,Pd hmb h2e,by rw[gk hsa s2];exact h1e,w6 (gX hmb),xe s2,.inl hnb,.inr (.inr rfl)⟩
def evY (P:Program)(pol:Pol)(rec:Rec)(f:Nat)(ops:Array Oper)(Ns:Nat→Option Nat)(fp:Nat→List Nat):List Nat→Env→Heap→Option (Env×Heap)
 | [],e,h=>some (e,h)
 | i :: rest, e, h => match ops[i]? with
  | some o=>if yg (Ns i) o e h=(fp i).tail∧(yo pol f o=true∨(Ns i).isSome=true∨(fp i).head? = some h.length) then (match wK P pol rec f (Ns i) ops o e h with
   | some (v,h')=>evY P pol rec f ops Ns fp rest (put e o.dst v) h'
   | none=>none) else none
  | none=>none
def ChgY (pol:Pol)(f:Nat)(kp:Bool)(ops:Array Oper)(fp:Nat→List Nat)(i j:Nat):Prop :=
 ∀ oi oj, ops[i]? = some oi → ops[j]? = some oj → oi.apart ops oj = true ∧
  ((yo pol f oi=true∧yo pol f oj=true)∨(yo pol f oi=true∧okK pol f oj=true∧Zs (fp i) (fp j)=true)∨(okK pol f oi=true∧yo pol f oj=true∧Zs (fp j) (fp i)=true) ∨
   (kp=true∧i≠j∧SM oi oj (fp i) (fp j)=true)∨SL oi oj (fp i) (fp j)=true)
theorem b8 {rs ws fa fb:List Nat}{n:Nat}{M:Option Nat}(hs:Zs rs ws=true)(ha:fa=rs.tail)(hb:fb=ws.tail)(hn:M.isSome=true∨ws.head? = some n):∀ r∈fa,(M.isSome=true∨r<n)∧r∉fb:=by
 subst ha hb
 cases rs with
 | nil=>simp[Zs]at hs
 | cons x fs =>
  cases ws with
  | nil=>simp[Zs]at hs
  | cons k ws =>
   simp only[Zs,List.all_eq_true,Bool.and_eq_true,decide_eq_true_eq,Bool.not_eq_true',List.tail_cons]at hs ⊢;intro r hr;obtain⟨h1,h2⟩:=hs r hr;refine⟨?_,fun hm=>by simp[hm]at h2⟩;rcases hn with hn|hn
   · exact .inl hn
   · simp only[List.head?_cons,Option.some.injEq]at hn;subst hn;exact .inr h1
theorem ba {rb ra fb fa:List Nat}{n k:Nat}(hs:P4 rb ra=true)(hb:k::fb=rb.tail)(ha:fa=ra.tail)(hn:ra.head? = some n):k∉fa∧k<n:=by
 subst ha;simp only[P4,Bool.and_eq_true,decide_eq_true_eq,← hb,List.headD_cons]at hs;refine⟨ik hs.1 k (by simp),?_⟩
 cases ra with
 | nil=>simp at hn
 | cons x l=>simp at hn hs;omega
theorem b9 {rs ra fa fb:List Nat}{n:Nat}(hs:P3 rs ra=true)(ha:fa=rs.tail)(hb:fb=ra.tail)(hn:ra.head? = some n):∀ r∈fa,r<n∧fb.head? ≠ some r:=by
 subst ha hb;intro r hr;simp only[P3,List.all_eq_true,Bool.and_eq_true,decide_eq_true_eq,Bool.not_eq_true',beq_eq_false_iff_ne]at hs;obtain⟨h1,h2⟩:=hs r hr
 cases ra with
 | nil=>simp at hn
 | cons x l=>simp at hn h2;exact⟨by omega,h1⟩
theorem fw {k:Nat}{o:Oper}{e:Env}:∃ l,yg (some k) o e h=k::l:=⟨_,rfl⟩
theorem fG {kp : Bool} {Ns : Nat → Option Nat} (hNB : ∀ (i k : Nat), Ns i = some k → ∀ (o : Oper), ops[i]? = some o → isB o = true ∧ pol.own f = true) (hinj : ∀ i j r, Ns i = some r → Ns j = some r → i = j) (hKp : kp = true → ∀ (i : Nat) (o : Oper), ops[i]? = some o → isB o = true → ∃ k, Ns i = some k) {fp : Nat → List Nat} {i : Nat} (B : List Nat) : ∀ (A : List Nat), (∀ j ∈ A, ChgY pol f kp ops fp j i) → ∀ {h : Heap} {e : Env} {r : Env × Heap},
 evY P pol rec f ops Ns fp (A++i::B) e h=some r→evY P pol rec f ops Ns fp (i::(A++B)) e h=some r
 | [],_,h,e,r,hev=>hev
 | j :: A, hA, h, e, r, hev => by
  simp only[List.cons_append,evY]at hev
  split at hev
  · rename_i oj hoj
    split at hev
    · rename_i hfj
      split at hev
      · rename_i va h1 h1e;have h2:=fG hNB hinj hKp B A (fun k hk=>hA k (by simp[hk])) hev;simp only[evY]at h2
        split at h2
        · rename_i oi hoi
          split at h2
          · rename_i hfi
            split at h2
            · rename_i vb h2' h2e;obtain⟨c1,c2⟩:=hA j (by simp) oj oi hoj hoi;obtain⟨k1,k2,k3⟩:=Oper.apart_spec c1;have hBa:∀ k,Ns j=some k→isB oj=true∧pol.own f=true:=fun k hk=>hNB j k hk oj hoj
              have hBb:∀ k,Ns i=some k→isB oi=true∧pol.own f=true:=fun k hk=>hNB i k hk oi hoi
              have hApN:∀ {i:Nat} {o:Oper},ops[i]? = some o→xT o=true→Ns i=none:=fun {i} {o} ho ha=>by
               cases hx:Ns i with
               | none=>rfl
               | some k=>exact (UB (hNB i k hx o ho).1 ha).elim
              have c3 : (yo pol f oj = true ∧ yo pol f oi = true) ∨ (yo pol f oj = true ∧ okK pol f oi = true ∧ ∀ r ∈ yg (Ns j) oj e h, ((Ns i).isSome = true ∨ r < h.length) ∧ r ∉ yg (Ns i) oi (put e oj.dst va) h1) ∨
               (okK pol f oj=true∧yo pol f oi=true∧∀ r∈yg (Ns i) oi (put e oj.dst va) h1,((Ns j).isSome=true∨r<h.length)∧r∉yg (Ns j) oj e h) ∨
               (∃ k k',Ns j=some k∧Ns i=some k'∧k≠k')∨(∃ k,Ns j=some k∧Ns i=none∧xT oi=true∧k∉yg (Ns i) oi (put e oj.dst va) h1∧k<h.length) ∨
               (∃ k,Ns i=some k∧Ns j=none∧xT oj=true∧k∉yg (Ns j) oj e h∧k<h.length) ∨
               (ry oj=true∧xT oi=true∧Ns i=none∧∀ r∈yg (Ns j) oj e h,r<h.length∧(yg (Ns i) oi (put e oj.dst va) h1).head? ≠ some r) ∨
               (xT oj=true∧ry oi=true∧Ns j=none∧∀ r∈yg (Ns i) oi (put e oj.dst va) h1,r<h.length∧(yg (Ns j) oj e h).head? ≠ some r) ∨
               (je oj=true∧nB oi=true)∨(nB oj=true∧je oi=true):=by
               have headA:∀ {i:Nat} {o:Oper} {m:Nat},ops[i]? = some o→xT o=true→(yo pol f o=true∨(Ns i).isSome=true∨(fp i).head? = some m)→(fp i).head? = some m:=fun {i} {o} {m} ho ha hx=>by
                rcases hx with hx|hx|hx
                · exact (mn ha hx).elim
                · rw[hApN ho ha]at hx;cases hx
                · exact hx
               rcases c2 with c2|⟨c2,c4,c5⟩|⟨c2,c4,c5⟩|⟨c2,c4,c5⟩|c2
               rotate_right
               · simp only[SL,Bool.or_eq_true,Bool.and_eq_true]at c2;rcases c2 with⟨⟨c6,c7⟩,c8⟩|⟨⟨c6,c7⟩,c8⟩|⟨c6,c7⟩|⟨c6,c7⟩
                 rotate_left 2
                 · exact .inr (.inr (.inr (.inr (.inr (.inr (.inr (.inr (.inl ⟨c6,c7⟩))))))))
                 · exact .inr (.inr (.inr (.inr (.inr (.inr (.inr (.inr (.inr ⟨c6,c7⟩))))))))
                 · have e0:=wz (uU c6) hBa;have e1:h1=h:=ve (uU c6) (by rw[e0]at h1e;exact h1e);subst e1;exact .inr (.inr (.inr (.inr (.inr (.inr (.inl ⟨c6,c7,hApN hoi c7,b9 c8 hfj.1 hfi.1 (headA hoi c7 hfi.2)⟩))))))
                 · exact .inr (.inr (.inr (.inr (.inr (.inr (.inr (.inl ⟨c6,c7,hApN hoj c6,b9 c8 hfi.1 hfj.1 (headA hoj c6 hfj.2)⟩)))))))
               · exact .inl c2
               · have e0:=wz c2 hBa;have e1:h1=h:=ve c2 (by rw[e0]at h1e;exact h1e);subst e1;rcases hfi.2 with hx|hx
                 · exact (bF hx c4).elim
                 · exact .inr (.inl ⟨c2,c4,b8 c5 hfj.1 hfi.1 hx⟩)
               · rcases hfj.2 with hx|hx
                 · exact (bF hx c2).elim
                 · exact .inr (.inr (.inl ⟨c2,c4,b8 c5 hfi.1 hfj.1 hx⟩))
               · simp only[SM,Bool.or_eq_true,Bool.and_eq_true]at c5;rcases c5 with⟨⟨c6,c7⟩,c8⟩|⟨⟨c6,c7⟩,c8⟩
                 · obtain⟨k,hk⟩:=hKp c2 j oj hoj c6;rcases c7 with c7|c7
                   · obtain⟨k',hk'⟩:=hKp c2 i oi hoi c7;exact .inr (.inr (.inr (.inl ⟨k,k',hk,hk',fun e=>c4 (hinj j i k hk (by rw[e];exact hk'))⟩)))
                   · have hNi:=hApN hoi c7;have hl:h1.length=h.length:=by
                      rw[hk]at h1e;obtain⟨x,rfl,_⟩:=VU (hBa k hk).2 c6 h1e;exact jC
                     have hh:(fp i).head? = some h.length:=by
                      rcases hfi.2 with hx|hx|hx
                      · exact (mn c7 hx).elim
                      · rw[hNi]at hx;cases hx
                      · rw[hx,hl]
                     have hf:=hfj.1;rw[hk]at hf;obtain⟨l,hl2⟩:=fw (h:=h) (k:=k) (o:=oj) (e:=e);rw[hl2]at hf;obtain⟨g1,g2⟩:=ba c8 hf hfi.1 hh;exact .inr (.inr (.inr (.inr (.inl ⟨k,hk,hNi,c7,g1,g2⟩))))
                 · obtain⟨k,hk⟩:=hKp c2 i oi hoi c7;have hNj:=hApN hoj c6;have hh:(fp j).head? = some h.length:=by
                    rcases hfj.2 with hx|hx|hx
                    · exact (mn c6 hx).elim
                    · rw[hNj]at hx;cases hx
                    · exact hx
                   have hf:=hfi.1;rw[hk]at hf;obtain⟨l,hl2⟩:=fw (h:=h1) (k:=k) (o:=oi) (e:=put e oj.dst va);rw[hl2]at hf;obtain⟨g1,g2⟩:=ba c8 hf hfj.1 hh;exact .inr (.inr (.inr (.inr (.inr (.inl ⟨k,hk,hNj,c6,g1,g2⟩)))))
              obtain⟨h3,g1,g2,g3,g4,g5,g6⟩:=Rf c1 hBa hBb c3 h1e h2e;have f1:yg (Ns i) oi e h=(fp i).tail∧(yo pol f oi=true∨(Ns i).isSome=true∨(fp i).head? = some h.length):=⟨by rw[g3];exact hfi.1,by
               rcases g5 with g5|g5|g5
               · exact .inl g5
               · exact .inr (.inl g5)
               · rw[g5];exact hfi.2⟩
              have f2:yg (Ns j) oj (put e oi.dst vb) h3=(fp j).tail∧(yo pol f oj=true∨(Ns j).isSome=true∨(fp j).head? = some h3.length):=⟨by rw[g4];exact hfj.1,by
               rcases g6 with g6|g6|g6
               · exact .inl g6
               · exact .inr (.inl g6)
               · rw[g6];exact hfj.2⟩
              simp only[evY,hoi,g1,List.cons_append,hoj,g2];rw[if_pos f1,if_pos f2,← bm e va vb k2];exact h2
            · cases h2
          · cases h2
        · cases h2
      · cases hev
    · cases hev
  · cases hev
theorem QY {W0 : World} (hrec : wF P W0 rec) {n : Nat} (hdst : nS n ops = true) (hpairs : kh ops = true) {kp : Bool} {Ns : Nat → Option Nat} (hNB : ∀ (i k : Nat), Ns i = some k → ∀ (o : Oper), ops[i]? = some o → isB o = true ∧ pol.own f = true) (hinj : ∀ i j r, Ns i = some r → Ns j = some r → i = j) (hKp : kp = true → ∀ (i : Nat) (o : Oper), ops[i]? = some o → isB o = true → ∃ k, Ns i = some k)
 (hsim:(∀ i,Ns i=none)∨∀ (i:Nat) (o:Oper),ops[i]? = some o→qV pol f o=true) {fp:Nat→List Nat}
 (hchg:∀ i j oj,i<j→ops[j]? = some oj→¬ Path ops i j→ChgY pol f kp ops fp i j) {Q:Exit→Act→World→Prop} :
 ∀ (fuel:Nat) (R:List Nat) (listed:Array Bool) {w:World} {F:Nat→Prop} {ρ:yc} {h:Heap} {e e':Env} {h':Heap} {a:Act},R.length=fuel→R.Pairwise (· < ·)→listed.size=ops.size→(∀ i,i∈R↔i<ops.size∧listed.getD i true=false)→(∀ i∈R,∀ r,Ns i=some r→h[r]? = some .dead∧ρ r=none) →
  (∀ k ok,listed.getD k false=true→ops[k]? = some ok→∀ ed∈ok.after,Region.binds .any ed=true→listed.getD ed.on false=true) →
  evY P pol rec f ops Ns fp R e h=some (e',h')→vQ W0 w F→St w F ρ Ow h→OkC Ow w→RE w F ρ a e→a.tmps.size=n→a.defers=[]→oe Ow w F ρ n e' h' (Q .normal)→wpAny P .any ops Q fuel listed a w:=by
 intro fuel
 induction fuel with
 | zero =>
  intro R listed w F ρ h e e' h' a hl hs hsz hR hdead hcl hev hB hS hO he hn hd hK;have:R=[]:=List.eq_nil_of_length_eq_zero hl;subst this;simp only[evY]at hev
  cases hev;refine⟨?_,hK a w F ρ he hS (Nxt.refl _ _ _ _) hn hd⟩;apply List.eq_nil_iff_forall_not_mem.2;intro j hj;obtain⟨hju,oj,hoj,_⟩:=mem_ready.1 hj;have:=(hR j).2 ⟨(Array.getElem?_eq_some_iff.1 hoj).1,hju⟩
  cases this
 | succ fuel ih =>
  intro R listed w F ρ h e e' h' a hl hs hsz hR hdead hcl hev hB hS hO he hn hd hK;refine⟨fun hnil=>?_,fun i hi=>?_⟩
  · exfalso
    cases R with
    | nil=>simp at hl
    | cons j R =>
     obtain⟨hj1,hj2⟩:=(hR j).1 (by simp);obtain⟨oj,hoj⟩:∃ o,ops[j]? = some o:=⟨_,Array.getElem?_eq_getElem hj1⟩;have:j∈Region.ready .any ops listed:=mem_ready.2 ⟨hj2,oj,hoj,fun ed hed hb=>by
      have hlt:=(uT hpairs hoj).1 ed hed hb
      cases hx:listed.getD ed.on false with
      | true=>rfl
      | false =>
       have hx':listed.getD ed.on true=false:=by
        simp only[Array.getD_eq_getD_getElem?]at hx ⊢;have hin:ed.on<listed.size:=by omega
        simp[hin]at hx ⊢;exact hx
       have:=(hR ed.on).2 ⟨by omega,hx'⟩;rcases List.mem_cons.1 this with h1|h1
       · omega
       · have:=(List.pairwise_cons.1 hs).1 _ h1;omega⟩
     rw[hnil]at this
     cases this
  · obtain⟨hiu,oi,hoi,hall'⟩:=mem_ready.1 hi;have hmem:=(hR i).2 ⟨(Array.getElem?_eq_some_iff.1 hoi).1,hiu⟩;obtain⟨A,B,rfl⟩:=List.append_of_mem hmem;have hpw:=List.pairwise_append.1 hs;have hnA:i∉A:=fun h1=>by have:=hpw.2.2 i h1 i (by simp);omega
    have hnB:i∉B:=fun h1=>by have:=(List.pairwise_cons.1 hpw.2.1).1 i h1;omega
    have hfront:=fG (P:=P) (rec:=rec) (fp:=fp) hNB hinj hKp B A (fun j hj=>by
     obtain⟨hj1,hj2⟩:=(hR j).1 (by simp[hj]);refine hchg j i oi (hpw.2.2 j hj i (by simp)) hoi fun hpt=>?_
     have h1:=la hcl hpt fun ox hox ed hed hb=>by
      rw[hoi]at hox;cases hox;exact hall' ed hed hb
     simp only[Array.getD_eq_getD_getElem?]at h1 hj2;have hin:j<listed.size:=by omega
     simp[hin]at h1 hj2;rw[hj2]at h1;cases h1) hev
    simp only[evY,hoi]at hfront
    split at hfront
    rotate_left
    · cases hfront
    split at hfront
    · rename_i v1 h1 h1ev;have hsub:∀ j,j∈A++B→j∈A++i::B:=fun j hj=>by simp at hj ⊢;rcases hj with h|h;exact .inl h;exact .inr (.inr h)
      have hother:∀ j,j∈A++B→∀ k,Ns i=some k→Ns j=some k→False:=fun j hj k h1 h2=>by
       have:=hinj i j k h1 h2;subst this;rcases List.mem_append.1 hj with hx|hx
       · exact hnA hx
       · exact hnB hx
      have hO':OkO ⟨Ow.b,fun r=>∃ j∈A++B,Ns j=some r,Ns i⟩ w ρ h:=by
       refine⟨hO.blk,?_,fun k hk=>hdead i (by simp) k hk⟩
       rintro⟨j,hj,hjr⟩
       cases hNi:Ns i with
       | none =>
        simp only[hNi,nI]at hjr;have hdj:=(hdead j (hsub j hj) _ hjr).1;rw[List.getElem?_eq_none (Nat.le_refl _)]at hdj;cases hdj
       | some k =>
        simp only[hNi,nI]at hjr;exact hother j hj k hNi hjr
      have hsim':((∀ r,¬ ∃ j∈A++B,Ns j=some r)∧Ns i=none)∨qV pol f oi=true:=by
       rcases hsim with hx|hx
       · exact .inl ⟨fun r ⟨j,_,hj⟩=>(by rw[hx]at hj;cases hj),hx i⟩
       · exact .inr (hx i oi hoi)
      refine YY (Ow:=⟨Ow.b,fun r=>∃ j∈A++B,Ns j=some r,Ns i⟩) hB hrec hoi (by rw[fJ];simp only;rw[h1ev]) (TO hS) hO' (fun r ⟨j,hj,hjr⟩=>(List.getElem?_eq_some_iff.1 (hdead j (hsub j hj) r hjr).1).1) hsim' he hn hd hdst fun a' w' F' ρ' k1 k2 k3 k4 k5=>?_
      have k3':=Xa hO k3;have hdead':∀ j∈A++B,∀ r,Ns j=some r→h1[r]? = some .dead∧ρ' r=none:=fun j hj r hjr=>by
       obtain⟨d1,d2⟩:=hdead j (hsub j hj) r hjr;refine⟨?_,(k3.res r ⟨j,hj,hjr⟩).trans d2⟩;rcases hsim with hx|hx
       · rw[hx]at hjr;cases hjr
       · exact Ri (hx i oi hoi) h1ev d1 fun hx'=>hother j hj r hx' hjr
      have hcl':∀ k ok,(listed.setIfInBounds i true).getD k false=true→ops[k]? = some ok→∀ ed∈ok.after,Region.binds .any ed=true→(listed.setIfInBounds i true).getD ed.on false=true:=fun k ok hk hok ed hed hb=>by
       have key:listed.getD ed.on false=true:=by
        by_cases hki:k=i
        · subst hki;rw[hoi]at hok;cases hok;exact hall' ed hed hb
        · rw[getD_set_ne false (Ne.symm hki)]at hk;exact hcl k ok hk hok ed hed hb
       by_cases hei:ed.on=i
       · rw[hei]at key ⊢;simp only[Array.getD_eq_getD_getElem?]at key ⊢
         by_cases hin:i<listed.size
         · simp[hin]
         · simp[hin]at key
       · rw[getD_set_ne false (Ne.symm hei)];exact key
      refine ih (A++B) (listed.setIfInBounds i true) (by simp at hl ⊢;omega) ?_ (by simpa using hsz) (fun j=>?_) hdead' hcl' hfront (hB.next k3') (TD k2) (hO.mono k3'.size) k1 k4 k5 (hK.step k3')
      · refine List.pairwise_append.2 ⟨hpw.1,(List.pairwise_cons.1 hpw.2.1).2,fun x hx y hy=>hpw.2.2 x hx y (by simp[hy])⟩
      · by_cases hji:j=i
        · subst hji;constructor
          · intro hj;exfalso;rcases List.mem_append.1 hj with h1|h1
            · exact hnA h1
            · exact hnB h1
          · rintro⟨hj1,hj2⟩
            exfalso;have hin:j<listed.size:=by omega
            simp[Array.getD_eq_getD_getElem?,hin]at hj2
        · rw[getD_set_ne true (Ne.symm hji),← hR j];simp[hji]
    · cases hfront
theorem XV {Ns:Nat→Option Nat}{fp:Nat→List Nat}:∀ (l:List Nat) (Nl:List (Option Nat)) (os:List Oper) {rs:List (List Nat)} {e e':Env} {h h':Heap},l.map (ops[·]?)=os.map some→(∀ (n i:Nat),l[n]? = some i→Ns i=(Nl[n]?).join)→evR P pol rec f ops Nl os e h=some (rs,e',h')→l.map fp=rs→evY P pol rec f ops Ns fp l e h=some (e',h')
 | [],Nl,[],rs,e,e',h,h',_,_,hev,_=>by simp only[evR]at hev;cases hev;rfl
 | i :: l, Nl, o :: os, rs, e, e', h, h', ho, hN, hev, hf => by
  simp only[List.map_cons,List.cons.injEq]at ho;simp only[evR]at hev;have hNi:hdN Nl=Ns i:=by
   rw[hN 0 i rfl]
   cases Nl<;>rfl
  rw[hNi,fJ]at hev
  cases h1:wK P pol rec f (Ns i) ops o e h with
  | none=>simp[h1]at hev
  | some x =>
   obtain⟨v,hx⟩:=x;simp only[h1]at hev
   split at hev
   · rename_i rs' e'' h'' h2
     cases hev;simp only[List.map_cons,List.cons.injEq]at hf;simp only[evY,ho.1,hf.1,List.tail_cons,List.head?_cons,or_true,and_self,if_true,h1];exact XV l Nl.tail os ho.2 (fun n j hj=>by rw[hN (n+1) j (by simpa using hj)];cases Nl<;>simp) h2 hf.2
   · cases hev
 | [],_,_::_,rs,e,e',h,h',ho,_,hev,hf=>by simp at ho
 | _::_,_,[],rs,e,e',h,h',ho,_,hev,hf=>by simp at ho
theorem XU:∀ (Nl:List (Option Nat)) (os:List Oper) {rs:List (List Nat)} {e e':Env} {h h':Heap},evR P pol rec f ops Nl os e h=some (rs,e',h')→rs.length=os.length
 | Nl,[],rs,e,e',h,h',hev=>by simp only[evR]at hev;cases hev;rfl
 | Nl,o::os,rs,e,e',h,h',hev=>by
  simp only[evR]at hev
  split at hev
  · split at hev
    · rename_i rs' e'' h'' h2
      cases hev;simp[XU _ os h2]
    · cases hev
  · cases hev
theorem sr:∀ (os:List Oper) (b i r:Nat),(kids b os)[i]? = some (some r)→b≤r∧r<b+nJ os∧∃ o,os[i]? = some o∧isB o=true
 | [],b,i,r,h=>by
  cases i with
  | zero=>simp[kids]at h
  | succ i=>simp[kids]at h
 | o :: os, b, i, r, h => by
  simp only[kids]at h;simp only[nJ]
  split at h
  · rename_i hn;simp only[hn,if_true]
    cases i with
    | zero=>simp at h;subst h;exact⟨Nat.le_refl _,by omega,o,rfl,hn⟩
    | succ i =>
     obtain⟨h1,h2,h3⟩:=sr os (b+1) i r (by simpa using h);exact⟨by omega,by omega,by simpa using h3⟩
  · rename_i hn;simp only[hn]
    cases i with
    | zero=>simp at h
    | succ i =>
     obtain⟨h1,h2,h3⟩:=sr os b i r (by simpa using h);exact⟨h1,by simpa using h2,by simpa using h3⟩
theorem jZ:∀ (os:List Oper) (b i j r:Nat),(kids b os)[i]? = some (some r)→(kids b os)[j]? = some (some r)→i=j
 | [],b,i,j,r,h,_=>by cases i<;>simp[kids]at h
 | o :: os, b, i, j, r, h1, h2 => by
  simp only[kids]at h1 h2
  split at h1
  · rename_i hn;simp only[hn,if_true]at h2
    cases i with
    | zero => cases j with
     | zero=>rfl
     | succ j =>
      have:=sr os (b+1) j r (by simpa using h2);simp at h1;omega
    | succ i => cases j with
     | zero =>
      have:=sr os (b+1) i r (by simpa using h1);simp at h2;omega
     | succ j=>rw[jZ os (b+1) i j r (by simpa using h1) (by simpa using h2)]
  · rename_i hn;simp only[hn]at h2
    cases i with
    | zero=>simp at h1
    | succ i=>cases j with
     | zero=>simp at h2
     | succ j=>rw[jZ os b i j r (by simpa using h1) (by simpa using h2)]
theorem jY:∀ (os:List Oper) (b i:Nat) (o:Oper),os[i]? = some o→isB o=true→∃ r,(kids b os)[i]? = some (some r)
 | [],b,i,o,h,_=>by simp at h
 | o' :: os, b, i, o, h, hn => by
  simp only[kids]
  cases i with
  | zero=>simp at h;subst h;simp only[hn,if_true];exact⟨b,rfl⟩
  | succ i =>
   split
   · simpa using jY os (b+1) i o (by simpa using h) hn
   · simpa using jY os b i o (by simpa using h) hn
theorem UY {W0:World} (hB:vQ W0 w F) (hrec:wF P W0 rec) {n:Nat} (hdst:nS n ops=true) (hok:mV P ops=true) {id:Nat} {kp:Bool} {Q:Exit→Act→World→Prop} {e e':Env} {h':Heap} {a:Act}
 (hev:evZ P pol rec f kp ops e h=some (e',h')) (hS:St w F ρ Ow h)
 (hO:OkC Ow w) (he:RE w F ρ a e) (hn:a.tmps.size=n) (hd:a.defers=[]) (hK:oe Ow w F ρ n e' h' (Q .normal)):(Code.region id ops true).wp P Q a w:=by
 simp only[mV,Bool.and_eq_true]at hok;obtain⟨hm,hpairs⟩:=hok;obtain⟨hS1,hN⟩:=jM hS;have hO1:OkC Ow w.drew:=hO.mono (Nat.le_refl _);have hops:(List.range ops.size).map (ops[·]?)=ops.toList.map some:=mc ops;have hlast:∀ i,i∈List.range ops.size↔i<ops.size∧(Array.replicate ops.size false).getD i true=false:=fun i=>by
  simp only[List.mem_range];constructor
  · intro hi;exact⟨hi,by simp[Array.getD_eq_getD_getElem?,hi]⟩
  · exact fun hi=>hi.1
 unfold evZ at hev
 split at hev
 · rename_i rs e1 h1 hR
   split at hev
   · rename_i hz
     cases hev;have hl:=XU _ _ hR;have hSp:St w.drew F ρ Ow (if kp then h++List.replicate (nJ ops.toList) .dead else h):=by
      cases kp with
      | true=>exact TN hS1 _
      | false=>exact hS1
     have hE:=XV (Ns:=fun i=>((if kp then kids h.length ops.toList else [])[i]?).join) (fp:=fun i=>rs.getD i []) (List.range ops.size) _ _ hops (fun n i hni=>by
      rw[List.getElem?_range (by simpa using (List.getElem?_eq_some_iff.1 hni).1)]at hni
      cases hni;rfl) hR (by
      rw[show ops.size=rs.length by simpa using hl.symm];exact range_map_get rs [])
     simp only[zOK,Bool.and_eq_true,Bool.or_eq_true,Bool.not_eq_true']at hz;obtain⟨hz0,hz⟩:=hz;have hjoin:∀ {i r:Nat},((if kp=true then kids h.length ops.toList else [])[i]?).join=some r→kp=true∧(kids h.length ops.toList)[i]? = some (some r):=fun {i} {r} hr=>by
      cases kp with
      | false=>simp at hr
      | true =>
       simp only[if_true]at hr;refine⟨rfl,?_⟩
       cases hx:(kids h.length ops.toList)[i]? with
       | none=>rw[hx]at hr;cases hr
       | some y=>rw[hx]at hr;simp at hr;rw[hr]
     have hkp:kp=true→pol.own f=true∧∀ (i:Nat) (o:Oper),ops[i]? = some o→qV pol f o=true:=fun hk=>by
      rcases hz0 with h0|h0
      · rw[hk]at h0;cases h0
      · exact⟨h0.1,fun i o ho=>List.all_eq_true.1 h0.2 o (by rw[Array.mem_toList_iff];exact Array.mem_of_getElem? ho)⟩
     refine wp_region_any hm (QY (w:=w.drew) hrec hdst hpairs (kp:=kp) (fun i k hk o ho=>?_) (fun i j r hi hj=>?_) (fun hk i o ho hb=>?_) ?_ (fp:=fun i=>rs.getD i []) (fun i j oj hij hoj hnp oi oj' hoi hoj'=>?_) ops.size (List.range ops.size) (Array.replicate ops.size false) (by simp) List.pairwise_lt_range (by simp) hlast (fun i hi r hr=>?_) (fun k ok hk=>by simp only[Array.getD_eq_getD_getElem?,Array.getElem?_replicate]at hk;split at hk<;>simp at hk) hE (hB.next hN) hSp hO1 (hN.re he) hn hd (hK.step hN))
     · obtain⟨q1,q2⟩:=hjoin hk;obtain⟨_,_,o',ho',hb⟩:=sr _ _ _ _ q2;have:ops[i]? = some o':=by simpa using ho'
       rw[ho]at this;cases this;exact⟨hb,(hkp q1).1⟩
     · exact jZ _ _ _ _ _ (hjoin hi).2 (hjoin hj).2
     · obtain⟨r,hr⟩:=jY ops.toList h.length i o (by simpa using ho) hb;exact⟨r,by simp only[hk,if_true,hr];rfl⟩
     · cases hk:kp with
       | false=>exact .inl fun i=>by simp
       | true=>exact .inr (hkp hk).2
     · rw[hoj]at hoj';cases hoj';have hno:∀ e∈oj.after,Region.binds .any e=true→e.on≠i:=fun e he hb heq=>hnp (.dir hoj he hb heq)
       have hlt:j<ops.size:=(Array.getElem?_eq_some_iff.1 hoj).1;have h2:=List.all_eq_true.1 hz j (List.mem_range.2 hlt);simp only[hoj,List.all_eq_true,List.mem_range]at h2;have h3:=h2 i hij;simp only[hoi,Ph,Bool.or_eq_true,Bool.and_eq_true]at h3;refine⟨(uT hpairs hoj).2 i oi hij hoi hno,?_⟩;rcases h3 with h3|h3|h3|h3|h3|h3
       · exact absurd (eU 8 j h3) hnp
       · exact .inl h3
       · exact .inr (.inl ⟨h3.1.1,h3.1.2,h3.2⟩)
       · exact .inr (.inr (.inl ⟨h3.1.1,h3.1.2,h3.2⟩))
       · exact .inr (.inr (.inr (.inl ⟨h3.1,by omega,h3.2⟩)))
       · exact .inr (.inr (.inr (.inr h3)))
     · obtain⟨q1,q2⟩:=hjoin hr;obtain⟨r1,r2,_⟩:=sr _ _ _ _ q2;refine⟨?_,hS1.out r r1⟩;rw[q1];simp only[if_true];rw[List.getElem?_append_right r1,List.getElem?_replicate,if_pos (by omega)]
   · cases hev
 · cases hev
end Go.Proofs.YtefkoljdebekdaaGreatDoor.E
/- The evaluator's code and calls are the machine's: whatever the evaluator answers, the machine returns. Conditions: those of each lemma. -/
namespace Go.Proofs.YtefkoljdebekdaaGreatDoor.E
variable {P:Program} {w:World} {F:Nat→Prop} {ρ:yc} {Ow:Own} {h:Heap}
def exi:Exi→Exit
 | .normal=>.normal
 | .exit id=>.exit id
 | .ret=>.ret
def xu (d:Array Oper→Bool)(n:Nat):Code→Bool
 | .region _ ops draw=>nS n ops&&(!draw||d ops)
 | .seq a b=>xu d n a&&xu d n b
 | .cond _ a b=>xu d n a&&xu d n b
 | .block _ c=>xu d n c
 | .loop c=>xu d n c
 | _=>true
theorem sd {d:Array Oper→Bool}{n:Nat}:∀ (ds:List Bool) {c c':Code},xu d n c=true→x7 c ds=some c'→xu d n c'=true
 | [],c,c',hc,h=>by simp only[x7]at h;cases h;exact hc
 | x :: ds, c, c', hc, h => by
  cases c with
  | seq a b =>
   simp only[x7]at h;simp only[xu,Bool.and_eq_true]at hc;refine sd ds (c:=if x then b else a) ?_ h
   split
   · exact hc.2
   · exact hc.1
  | cond o a b =>
   simp only[x7]at h;simp only[xu,Bool.and_eq_true]at hc;refine sd ds (c:=if x then b else a) ?_ h
   split
   · exact hc.2
   · exact hc.1
  | block id b=>simp only[x7]at h;exact sd ds (c:=b) hc h
  | loop b=>simp only[x7]at h;exact sd ds (c:=b) hc h
  | _=>simp[x7]at h
def dW (P : Program) (W0 : World) (pol : Pol) (rec : Rec) : Prop :=
 ∀ f p m vals h x outs h', rec (.loop f p m vals h) = some (.loop x outs h') →
  ∃ fn c b, P.funcs[f]? = some fn ∧ fn.body = some c ∧ x7 c (turns p) = some (.loop b) ∧
   (1≤p→xu (nF P pol f) fn.ntmps c=true→∀ (Ow:Own) (w:World) (F:Nat→Prop) (ρ:yc) (a:Act) (Q:Exit→Act→World→Prop),vQ W0 w F→St w F ρ Ow h→OkC Ow w→RVs w F ρ (sk a (pol.live f p)) vals→a.tmps.size=fn.ntmps→a.defers=[] →
    (∀ a' w' F' ρ',RE w' F' ρ' a' (zb (pol.outs f p) outs)→St w' F' ρ' Ow h'→Nxt Ow w F zP w' F' zP→(∀ r l,r<m→ρ r=some l→ρ' r=some l)→a'.tmps.size=fn.ntmps→a'.defers=[]→Q (exi x) a' w') →
    (Code.loop b).wp P Q a w∧l6 P b Q a w)
theorem Nxt.forget {w1:World}{F1:Nat→Prop}{ρ1 ρa:yc}(h:Nxt Ow w F ρ w1 F1 ρ1)(he:Ext ρa ρa):Nxt Ow w F ρa w1 F1 ρa :=
 ⟨h.os,h.tape,h.output,h.size,h.keep,h.agree,h.grow,h.new,he,fun _ _=>rfl⟩
def dX (Ow:Own)(w:World)(F:Nat→Prop)(ρ:yc)(m:Nat)(n:Nat)(x:Exi)(e':Env)(h':Heap)(Q:Exit→Act→World→Prop):Prop :=
 ∀ a' w' F' ρ',RE w' F' ρ' a' e'→St w' F' ρ' Ow h'→Nxt Ow w F zP w' F' zP→(∀ r l,r<m→ρ r=some l→ρ' r=some l)→a'.tmps.size=n→a'.defers=[]→Q (exi x) a' w'
theorem dX.step {w1:World}{F1:Nat→Prop}{ρ1:yc}{m:Nat}{n:Nat}{x:Exi}{e':Env}{h':Heap}{Q:Exit→Act→World→Prop}(hK:dX Ow w F ρ m n x e' h' Q)(hN:Nxt Ow w F zP w1 F1 zP)(hx:∀ r l,r<m→ρ r=some l→ρ1 r=some l):dX Ow w1 F1 ρ1 m n x e' h' Q :=
 fun a' w' F' ρ' h1 h2 h3 h4 h5 h6=>hK a' w' F' ρ' h1 h2 (hN.trans h3) (fun r l hr hl=>h4 r l hr (hx r l hr hl)) h5 h6
theorem vP {W0:World}{pol:Pol}{rec:Rec}(hrec:wF P W0 rec)(hloop:dW P W0 pol rec){f:Nat}{fn:Func}{body:Code}(hf:P.funcs[f]? = some fn)(hbody:fn.body=some body)(hbOK:xu (nF P pol f) fn.ntmps body=true){m:Nat} :
 ∀ (c:Code) (p:Nat) {w:World} {F:Nat→Prop} {ρ:yc} {h:Heap} {e:Env} {x:Exi} {e':Env} {h':Heap} {a:Act} {Q:Exit→Act→World→Prop},
  evC P pol rec f m c p e h=some (x,e',h')→1≤p→x7 body (turns p)=some c→vQ W0 w F→St w F ρ Ow h→OkC Ow w→RE w F ρ a e→a.tmps.size=fn.ntmps→a.defers=[] →
  dX Ow w F ρ m fn.ntmps x e' h' Q→c.wp P Q a w
 | .skip,p,w,F,ρ,h,e,x,e',h',a,Q,hev,hp,hat,hB,hS,hO,he,hn,hd,hQ=>by
  simp only[evC]at hev;cases hev;exact wp_skip (hQ a w F ρ he hS (Nxt.refl _ _ _ _) (fun _ _ _ x=>x) hn hd)
 | .exit id,p,w,F,ρ,h,e,x,e',h',a,Q,hev,hp,hat,hB,hS,hO,he,hn,hd,hQ=>by
  simp only[evC]at hev;cases hev;exact wp_exit (hQ a w F ρ he hS (Nxt.refl _ _ _ _) (fun _ _ _ x=>x) hn hd)
 | .ret,p,w,F,ρ,h,e,x,e',h',a,Q,hev,hp,hat,hB,hS,hO,he,hn,hd,hQ=>by
  simp only[evC]at hev;cases hev;exact wp_ret (hQ a w F ρ he hS (Nxt.refl _ _ _ _) (fun _ _ _ x=>x) hn hd)
 | .seq c1 c2, p, w, F, ρ, h, e, x, e', h', a, Q, hev, hp, hat, hB, hS, hO, he, hn, hd, hQ => by
  simp only[evC]at hev;have a1:x7 body (turns (2*p))=some c1:=by
   have:=uE hp 0 (by omega);simp only[Nat.add_zero]at this;rw[this,x5 _ _ _ _ hat];rfl
  have a2:x7 body (turns (2*p+1))=some c2:=by
   rw[uE hp 1 (by omega),x5 _ _ _ _ hat];rfl
  refine wp_seq ?_
  split at hev
  · rename_i e1 h1 h1ev;refine vP hrec hloop hf hbody hbOK c1 (2*p) h1ev (by omega) a1 hB hS hO he hn hd fun a' w' F' ρ' k1 k2 k3 kx k4 k5=>?_
    exact vP hrec hloop hf hbody hbOK c2 (2*p+1) hev (by omega) a2 (hB.next k3) k2 (hO.mono k3.size) k1 k4 k5 (hQ.step k3 kx)
  · rename_i hne;refine vP hrec hloop hf hbody hbOK c1 (2*p) hev (by omega) a1 hB hS hO he hn hd fun a' w' F' ρ' k1 k2 k3 kx k4 k5=>?_
    have:=hQ a' w' F' ρ' k1 k2 k3 kx k4 k5
    cases x with
    | normal=>exact absurd hev (hne e' h')
    | exit id=>exact this
    | ret=>exact this
 | .cond c c1 c2, p, w, F, ρ, h, e, x, e', h', a, Q, hev, hp, hat, hB, hS, hO, he, hn, hd, hQ => by
  simp only[evC]at hev;have a1:x7 body (turns (2*p))=some c1:=by
   have:=uE hp 0 (by omega);simp only[Nat.add_zero]at this;rw[this,x5 _ _ _ _ hat];rfl
  have a2:x7 body (turns (2*p+1))=some c2:=by
   rw[uE hp 1 (by omega),x5 _ _ _ _ hat];rfl
  split at hev
  · rename_i t hc;have hcv:=yR (P:=P) he 0 c;rw[hc]at hcv;refine wp_cond (t:=t) (eP hcv) ?_
    cases t with
    | true=>simp only[if_true]at hev ⊢;exact vP hrec hloop hf hbody hbOK c1 (2*p) hev (by omega) a1 hB hS hO he hn hd hQ
    | false=>simp only[Bool.false_eq_true,if_false]at hev ⊢;exact vP hrec hloop hf hbody hbOK c2 (2*p+1) hev (by omega) a2 hB hS hO he hn hd hQ
  · cases hev
 | .block id c, p, w, F, ρ, h, e, x, e', h', a, Q, hev, hp, hat, hB, hS, hO, he, hn, hd, hQ => by
  simp only[evC]at hev;have a1:x7 body (turns (2*p))=some c:=by
   have:=uE hp 0 (by omega);simp only[Nat.add_zero]at this;rw[this,x5 _ _ _ _ hat];rfl
  refine wp_block ?_
  split at hev
  · rename_i id' e1 h1 h1ev;refine vP hrec hloop hf hbody hbOK c (2*p) h1ev (by omega) a1 hB hS hO he hn hd fun a' w' F' ρ' k1 k2 k3 kx k4 k5=>?_
    simp only[exi,Exit.inBlock]
    split at hev
    · rename_i hid
      cases hev;rw[if_pos hid];exact hQ a' w' F' ρ' k1 k2 k3 kx k4 k5
    · rename_i hid
      cases hev;rw[if_neg hid];exact hQ a' w' F' ρ' k1 k2 k3 kx k4 k5
  · rename_i hne;refine vP hrec hloop hf hbody hbOK c (2*p) hev (by omega) a1 hB hS hO he hn hd fun a' w' F' ρ' k1 k2 k3 kx k4 k5=>?_
    have:=hQ a' w' F' ρ' k1 k2 k3 kx k4 k5
    cases x with
    | normal=>exact this
    | exit id'=>exact absurd hev (hne id' e' h')
    | ret=>exact this
 | .loop b,p,w,F,ρ,h,e,x,e',h',a,Q,hev,hp,hat,hB,hS,hO,he,hn,hd,hQ=>by
  simp only[evC]at hev
  split at hev
  · rename_i x' outs h1 hr
    cases hev;obtain⟨fn',c',b',f1,f2,f3,f4⟩:=hloop f p m _ _ _ _ _ hr;rw[hf]at f1;cases f1;rw[hbody]at f2;cases f2;rw[hat]at f3;cases f3;obtain⟨ρ',k1,k2,kp⟩:=eV (m:=m) hS (tC he (pol.live f p));exact (f4 hp hbOK Ow w F ρ' a Q hB k2 hO k1 hn hd (hQ.step (Nxt.refl _ _ _ _) fun r l hr hl=>(kp r hr).trans hl)).1
  · cases hev
 | .region id ops draw, p, w, F, ρ, h, e, x, e', h', a, Q, hev, hp, hat, hB, hS, hO, he, hn, hd, hQ => by
  simp only[evC]at hev
  split at hev
  · cases hev
  · rename_i hdr;have hcOK:=sd _ hbOK hat;simp only[xu,Bool.and_eq_true]at hcOK;obtain⟨hdst,hdraw⟩:=hcOK
    split at hev
    · rename_i e1 h1 hops
      cases hev
      cases draw with
      | false =>
       simp only[Bool.false_and,Bool.false_eq_true,if_false]at hops;rw[aN (List.range ops.size) ops.toList e _ (mc ops)]at hops;obtain⟨F1,ρ1,g1,g2⟩:=Yl hO.z e (pol.gh f id) hS;exact wp_region (Si hrec hdst _ hops (hB.next g2) g1 hO (g2.re he) hn hd fun a' w' F' ρ' k1 k2 k3 k4 k5=>hQ a' w' F' ρ' k1 k2 ((g2.trans k3).forget (Ext.refl _)) (fun r l _ hl=>k3.ext r l (g2.ext r l hl)) k4 k5)
      | true =>
       have hdr':pol.dr f=true:=by simpa using hdr
       have hok:mV P ops=true:=by simpa [nF,hdr'] using hdraw
       simp only[Bool.true_and,if_true]at hops;obtain⟨F1,ρ1,g1,g2⟩:=Yl hO.z e (pol.gh f id) hS
       by_cases hc:(pol.own f&&pol.dm f id)=true
       · by_cases hall:ops.toList.all (yo pol f)=true
         · simp only[hall,Bool.not_true,Bool.false_eq_true,if_false]at hops;have hops':(if !(ops.toList.all (yo pol f)) then tj P pol rec f ops e (ghH (pol.gh f id) e h) else wY P pol rec f ops ops.toList e (ghH (pol.gh f id) e h))=some (e',h'):=by
            simp only[hall,Bool.not_true,Bool.false_eq_true,if_false];exact hops
           exact XX (hB.next g2) hrec hdst hok hops' g1 hO (g2.re he) hn hd fun a' w' F' ρ' k1 k2 k3 k4 k5=>hQ a' w' F' ρ' k1 k2 ((g2.trans k3).forget (Ext.refl _)) (fun r l _ hl=>k3.ext r l (g2.ext r l hl)) k4 k5
         · simp only[hall,hc,Bool.not_false,if_true]at hops;exact UY (hB.next g2) hrec hdst hok hops g1 hO (g2.re he) hn hd fun a' w' F' ρ' k1 k2 k3 k4 k5=>hQ a' w' F' ρ' k1 k2 ((g2.trans k3).forget (Ext.refl _)) (fun r l _ hl=>k3.ext r l (g2.ext r l hl)) k4 k5
       · simp only[hc,Bool.false_eq_true,if_false]at hops;exact XX (hB.next g2) hrec hdst hok hops g1 hO (g2.re he) hn hd fun a' w' F' ρ' k1 k2 k3 k4 k5=>hQ a' w' F' ρ' k1 k2 ((g2.trans k3).forget (Ext.refl _)) (fun r l _ hl=>k3.ext r l (g2.ext r l hl)) k4 k5
    · cases hev
 | .rangeFunc _ _ _ _,p,w,F,ρ,h,e,x,e',h',a,Q,hev,hp,hat,hB,hS,hO,he,hn,hd,hQ=>by simp[evC]at hev
 | .scope _,p,w,F,ρ,h,e,x,e',h',a,Q,hev,hp,hat,hB,hS,hO,he,hn,hd,hQ=>by simp[evC]at hev
 | .label _,p,w,F,ρ,h,e,x,e',h',a,Q,hev,hp,hat,hB,hS,hO,he,hn,hd,hQ=>by simp[evC]at hev
 | .goto _,p,w,F,ρ,h,e,x,e',h',a,Q,hev,hp,hat,hB,hS,hO,he,hn,hd,hQ=>by simp[evC]at hev
 | .refuse _,p,w,F,ρ,h,e,x,e',h',a,Q,hev,hp,hat,hB,hS,hO,he,hn,hd,hQ=>by simp[evC]at hev
def mN (a:Act):ResultVar→Sem Value
 | .tmp t=>pure (a.tmps.getD t undef)
 | .cell b t=>do loadVar t (← asAddr (a.tmps.getD b undef))
theorem eR (hS:St w F ρ Ow h){a:Act}{e:Env}(he:RE w F ρ a e):∀ (rs:List ResultVar) {vs:List V},vJ P e h rs=some vs →
 ∃ us:List Value,(rs.mapM (mN a)).run P w=.ok us w∧RVs w F ρ us vs
 | [],vs,hr=>by simp only[vJ]at hr;cases hr;exact⟨[],rfl,.nil⟩
 | .tmp t::rs,vs,hr=>by
  simp only[vJ]at hr
  split at hr
  · rename_i vs' h1
    cases hr;obtain⟨us,e1,e2⟩:=eR hS he rs h1;refine⟨a.tmps.getD t undef::us,?_,.cons (he t) e2⟩;have e5:(mN a (.tmp t)).run P w=.ok (a.tmps.getD t undef) w:=rfl;rw[List.mapM_cons,Sem.run_bind,e5];simp only[Result.andThen_ok];rw[Sem.run_bind,e1];rfl
  · cases hr
 | .cell b t::rs,vs,hr=>by
  simp only[vJ]at hr
  split at hr
  · rename_i v hl
    split at hr
    · rename_i vs' h1
      cases hr;obtain⟨us,e1,e2⟩:=eR hS he rs h1;obtain⟨u,e3,e4⟩:=Xg (P:=P) hS hl (he b);have hptr:∃ ad,a.tmps.getD b undef=.pointer (some ad):=by
       have hb:=he b;unfold load at hl;generalize hgx:a.tmps.getD b undef=z at hb;generalize hge:e b=eb at hb hl
       cases hb with
       | ptr=>exact⟨_,rfl⟩
       | t _ _ hx=>cases hx<;>first|exact⟨_,rfl⟩|simp at hl
       | _=>simp at hl
      obtain⟨ad,hptr⟩:=hptr;refine⟨u::us,?_,.cons e4 e2⟩;have e3':(loadVar t ad).run P w=.ok u w:=by
       rw[hptr]at e3;simpa [Instr.loadAt,Instr.sureAddr] using e3
      have e5:(mN a (.cell b t)).run P w=.ok u w:=by simp[mN,hptr,asAddr,e3']
      rw[List.mapM_cons,Sem.run_bind,e5];simp only[Result.andThen_ok];rw[Sem.run_bind,e1];rfl
    · cases hr
  · cases hr
theorem kR (hS:St w F ρ Ow h){a:Act}{e:Env}(he:RE w F ρ a e){fn:Func}{vs:List V}(hr:vJ P e h fn.results.toList=some vs):∃ u,(results fn a.tmps).run P w=.ok u w∧RV w F ρ u (zm vs):=by
 obtain⟨us,e1,e2⟩:=eR hS he fn.results.toList hr;have hm:(fn.results.mapM (mN a)).run P w=.ok us.toArray w:=by
  rw[Array.mapM_eq_mapM_toList,Sem.run_map,e1];rfl
 have hres:results fn a.tmps=(do let vs ← fn.results.mapM (mN a);pure (if h:vs.size=1 then vs[0] else .tuple vs)):=by
  unfold results
  congr 2
 rw[hres,Sem.run_bind,hm];simp only[Result.andThen_ok,Sem.run_pure];refine⟨_,rfl,?_⟩
 cases e2 with
 | nil=>exact RV.ef .nil
 | cons h1 h2 =>
  cases h2 with
  | nil=>simpa [zm] using h1
  | cons h3 h4 =>
   rw[dif_neg (by simp)];simp only[zm];exact RV.ef (.cons h1 (.cons h3 h4))
theorem pP:∀ (us:List Value) (n:Nat) (pre:List Value) (post:List Value),n=us.length→sk ⟨(pre++us++post).toArray,[]⟩ ((List.range' pre.length n))=us
 | [],n,pre,post,hn=>by subst hn;rfl
 | u::us,n,pre,post,hn=>by
  subst hn;simp only[List.length_cons,List.range'_succ,sk,List.map_cons];have h1:=pP us us.length (pre++[u]) post rfl;simp only[List.length_append,List.length_singleton,sk,List.append_assoc,List.singleton_append,List.cons_append,List.nil_append]at h1;simp only[List.append_assoc,List.cons_append];rw[h1]
  congr 1
  simp[List.getElem?_append_right]
def ExtPK (P:Program)(W0:World)(pol:Pol):Prop :=
 ∀ g args v, pol.ext g args = some v →
  (∃ fn, P.funcs[g]? = some fn ∧ (fn.name == "runtime.NumGoroutine") = false ∧ fn.body.isNone = false) ∧
  ∀ (w:World) (F:Nat→Prop) (us:Array Value),vQ W0 w F→(∀ b,F b→b<w.heap.size)→RVs w F zP us.toList args →
   Calls P g us w fun e w'=>∃ u F',e=.returned u∧RV w' F' zP u v∧(∀ b,F' b→b<w'.heap.size)∧Nxt (own fun b=>w.heap.size≤b) w F zP w' F' zP
def ov (P:Program)(W0:World)(g:Nat)(e:List V→Heap→Option (V×Heap)):Prop :=
 ∀ args h v h', e args h = some (v, h') →
  (∃ fn, P.funcs[g]? = some fn ∧ (fn.name == "runtime.NumGoroutine") = false ∧ fn.body.isNone = false) ∧
  ∀ (Ow:Own) (w:World) (F:Nat→Prop) (ρ:yc) (us:Array Value),vQ W0 w F→St w F ρ Ow h→OkC Ow w→RVs w F ρ us.toList args →
   Calls P g us w fun e w'=>∃ u F' ρ',e=.returned u∧RV w' F' ρ' u v∧St w' F' ρ' Ow h'∧Nxt Ow w F zP w' F' zP∧∀ r l,r<h.length→ρ r=some l→ρ' r=some l
structure lX (P:Program) (W0:World) (pol:Pol):Prop where
 p:ExtPK P W0 pol
 o:∀ g,ov P W0 g (pol.extO g)
theorem Rp {W0 : World} {pol : Pol} {rec : Rec} (hE : lX P W0 pol) (hP : ∀ f fn c, pol.no f = false → P.funcs[f]? = some fn → fn.body = some c → xu (nF P pol f) fn.ntmps c = true) (hrec : wF P W0 rec) (hloop : dW P W0 pol rec) : wF P W0 (step P pol rec) ∧ dW P W0 pol (step P pol rec) := by
 refine⟨⟨?_,?_⟩,?_⟩
 · intro g args v hs;simp only[step]at hs
   split at hs
   · rename_i v' hx
     split at hs
     · cases hs;exact hE.p g args _ hx
     · cases hs
   split at hs
   · rename_i fn hf
     split at hs
     · rename_i c hb
       split at hs
       · cases hs
       · rename_i hc;simp only[Bool.or_eq_true,decide_eq_true_eq,not_or,Bool.not_eq_true,Nat.not_lt]at hc;obtain⟨⟨c1,c2⟩,c3⟩:=hc;refine⟨⟨fn,hf,c2,by simp[hb]⟩,fun w F us hB hF hu=>?_⟩;have hul:=zQ hu;have hbOK:=hP g fn c c1 hf hb;have hS0:St w F zP (own fun b=>w.heap.size≤b) []:=TE hF;have hE0:RE w F zP ⟨us++Array.replicate (fn.ntmps - us.size) undef,[]⟩ (zb (List.range args.length) args):=by
          refine sq _ _ ?_;have:=pP us.toList args.length [] (List.replicate (fn.ntmps - us.size) undef) hul.symm;simp only[List.length_nil,List.nil_append]at this;rw[List.range_eq_range'];have e0:(⟨us++Array.replicate (fn.ntmps - us.size) undef,[]⟩:Act)=⟨(us.toList++List.replicate (fn.ntmps - us.size) undef).toArray,[]⟩:=by
           congr 1
           apply Array.ext';simp
          rw[e0,this];exact hu
         have hn0:(us++Array.replicate (fn.ntmps - us.size) undef).size=fn.ntmps:=by simp at hul ⊢;omega
         have finish : ∀ (x : Exi) e' h', (exi x = .normal ∨ exi x = .ret) → (match vJ P e' h' fn.results.toList with
          | some vs=>match yk h' (zm vs) with
           | some (v,h'')=>some (xV.call v (h''.take 0))
           | none=>none
          | none=>none)=some (.call v [])→evC P pol rec g 0 c 1 (zb (List.range args.length) args) []=some (x,e',h') →
          Calls P g us w fun e w'=>∃ u F',e=.returned u∧RV w' F' zP u v∧(∀ b,F' b→b<w'.heap.size)∧Nxt (own fun b=>w.heap.size≤b) w F zP w' F' zP:=by
          intro x e' h' hx hfin hev;refine calls_of_wp hf hb (vP (m:=0) hrec hloop hf hb hbOK c 1 hev (Nat.le_refl _) rfl hB hS0 (OkC.own _ fun b hb=>hb) hE0 hn0 rfl fun a' w' F' ρ' k1 k2 k3 kx k4 k5=>?_)
          split at hfin
          · rename_i vs hvs
            split at hfin
            · rename_i v' h2 hg
              cases hfin;obtain⟨u,r1,r2⟩:=kR k2 k1 hvs;obtain⟨F2,g1,g2,g3⟩:=dh zP (zm vs) k2 r2 hg;have:a'.defers=[]∧∃ v',(results fn a'.tmps).run P w'=.ok v' w'∧∃ u F',Ending.returned v'=.returned u∧RV w' F' zP u v∧(∀ b,F' b→b<w'.heap.size)∧Nxt (own fun b=>w.heap.size≤b) w F zP w' F' zP :=
               ⟨k5,u,r1,u,F2,rfl,g1,g2.fsz,k3.trans (g3.forget (Ext.refl _))⟩
              rcases hx with hx|hx<;>rw[hx]<;>exact this
            · cases hfin
          · cases hfin
         split at hs
         · rename_i e' h' hev;exact finish .normal e' h' (.inl rfl) hs hev
         · rename_i e' h' hev;exact finish .ret e' h' (.inr rfl) hs hev
         · cases hs
     · cases hs
   · cases hs
 · intro gv g args h v h' hs;simp only[step]at hs
   split at hs
   · rename_i x hx
     cases gv with
     | true=>cases hs
     | false =>
      simp only[Bool.false_eq_true,if_false]at hs
      cases hs;exact hE.o g args h _ _ hx
   split at hs
   · rename_i fn hf
     split at hs
     · rename_i c hb
       split at hs
       · cases hs
       · rename_i hc;simp only[Bool.or_eq_true,decide_eq_true_eq,not_or,Bool.not_eq_true,Nat.not_lt]at hc;obtain⟨⟨c1,c2⟩,c3⟩:=hc;refine⟨⟨fn,hf,c2,by simp[hb]⟩,fun Ow w F ρ us hB hS hO hu=>?_⟩;have hul:=zQ hu;have hbOK:=hP g fn c c1 hf hb;have hE0:RE w F ρ ⟨us++Array.replicate (fn.ntmps - us.size) undef,[]⟩ (zb (List.range args.length) args):=by
          refine sq _ _ ?_;have:=pP us.toList args.length [] (List.replicate (fn.ntmps - us.size) undef) hul.symm;simp only[List.length_nil,List.nil_append]at this;rw[List.range_eq_range'];have e0:(⟨us++Array.replicate (fn.ntmps - us.size) undef,[]⟩:Act)=⟨(us.toList++List.replicate (fn.ntmps - us.size) undef).toArray,[]⟩:=by
           congr 1
           apply Array.ext';simp
          rw[e0,this];exact hu
         have hn0:(us++Array.replicate (fn.ntmps - us.size) undef).size=fn.ntmps:=by simp at hul ⊢;omega
         have finish : ∀ (x : Exi) e' h1, (exi x = .normal ∨ exi x = .ret) → nu gv h.length (vJ P e' h1 fn.results.toList) h1 = some (.call v h') → evC P pol rec g h.length c 1 (zb (List.range args.length) args) h = some (x, e', h1) →
          Calls P g us w fun e w'=>∃ u F' ρ',e=.returned u∧RV w' F' ρ' u v∧St w' F' ρ' Ow h'∧Nxt Ow w F zP w' F' zP∧∀ r l,r<h.length→ρ r=some l→ρ' r=some l:=by
          intro x e' h1 hx hfin hev;refine calls_of_wp hf hb (vP (m:=h.length) hrec hloop hf hb hbOK c 1 hev (Nat.le_refl _) rfl hB hS hO hE0 hn0 rfl fun a' w' F' ρ' k1 k2 k3 kx k4 k5=>?_);unfold nu at hfin
          split at hfin
          · rename_i vs hvs;obtain⟨u,r1,r2⟩:=kR k2 k1 hvs
            cases gv with
            | false =>
             simp only[Bool.false_eq_true,if_false]at hfin
             cases hfin;have hnd:(reach h1 3 (yH (List.range h.length) (refs.refss vs))).Nodup:=rX h1 3 _ (vZ _ _ List.nodup_range);have hfirst:=pT h.length vs h1;have hS2:=oV hnd k2;have hv:∀ l:List V,ren (idx (reach h1 3 (yH (List.range h.length) (refs.refss vs)))) (zm l)=zm (ren.rens (idx (reach h1 3 (yH (List.range h.length) (refs.refss vs)))) l):=fun l=>by
              match l with
              | []=>rfl
              | [a]=>rfl
              | a::b::l=>rfl
             have:a'.defers=[]∧∃ v',(results fn a'.tmps).run P w'=.ok v' w'∧∃ u F' ρ',Ending.returned v'=.returned u∧RV w' F' ρ' u (zm (ym h.length vs h1).1)∧St w' F' ρ' Ow (ym h.length vs h1).2∧Nxt Ow w F zP w' F' zP∧∀ r l,r<h.length→ρ r=some l→ρ' r=some l :=
              ⟨k5,u,r1,u,F',yb ρ' _,rfl,by have:=Oc (reach h1 3 (yH (List.range h.length) (refs.refss vs))) _ r2;rw[hv]at this;exact this,hS2,k3,fun r l hr hl=>by simp[yb,hfirst r hr,kx r l hr hl]⟩
             rcases hx with hx|hx<;>rw[hx]<;>exact this
            | true =>
             simp only[if_true]at hfin
             split at hfin
             · rename_i v' h2 hg
               cases hfin;obtain⟨F2,g1,g2,g3⟩:=dh zP (zm vs) k2 r2 hg;have hnd:(reach h2 3 (yH (List.range h.length) (refs.refss []))).Nodup:=rX h2 3 _ (vZ _ _ List.nodup_range);have hfirst:=pT h.length [] h2;have hS2:=oV hnd g2;have:a'.defers=[]∧∃ v',(results fn a'.tmps).run P w'=.ok v' w'∧∃ u F' ρ',Ending.returned v'=.returned u∧RV w' F' ρ' u v∧St w' F' ρ' Ow (ym h.length [] h2).2∧Nxt Ow w F zP w' F' zP∧∀ r l,r<h.length→ρ r=some l→ρ' r=some l :=
                ⟨k5,u,r1,u,F2,yb ρ' _,rfl,g1.mono (fun _ _=>rfl) (fun _ x=>x) (j7 _),hS2,k3.trans (g3.forget (Ext.refl _)),fun r l hr hl=>by simp[yb,hfirst r hr,kx r l hr hl]⟩
               rcases hx with hx|hx<;>rw[hx]<;>exact this
             · cases hfin
          · cases hfin
         split at hs
         · rename_i e' h1 hev;exact finish .normal e' h1 (.inl rfl) hs hev
         · rename_i e' h1 hev;exact finish .ret e' h1 (.inr rfl) hs hev
         · cases hs
     · cases hs
   · cases hs
 · intro f p m vals h x outs h' hs;simp only[step]at hs
   split at hs
   · rename_i fn hf
     split at hs
     · rename_i c hb
       split at hs
       · rename_i b hat;refine⟨fn,c,b,hf,hb,hat,fun hp hbOK Ow w F ρ a Q hB hS hO hv hn hd hQ=>?_⟩;have hat':x7 c (turns (2*p))=some b:=by
          have:=uE hp 0 (by omega);simp only[Nat.add_zero]at this;rw[this,x5 _ _ _ _ hat];rfl
         have body:b.wp P (Exit.then (l6 P b Q) Q) a w:=by
          split at hs
          · rename_i e1 h1 hev;refine vP hrec hloop hf hb hbOK b (2*p) hev (by omega) hat' hB hS hO (sq _ _ hv) hn hd fun a' w' F' ρ' k1 k2 k3 kx k4 k5=>?_
            obtain⟨fn2,c2,b2,i1,i2,i3,i4⟩:=hloop f p m _ _ _ _ _ hs;rw[hf]at i1;cases i1;rw[hb]at i2;cases i2;rw[hat]at i3;cases i3;obtain⟨ρ2,j1,j2,jp⟩:=eV (m:=m) k2 (tC k1 (pol.live f p));exact (i4 hp hbOK Ow w' F' ρ2 a' Q (hB.next k3) j2 (hO.mono k3.size) j1 k4 k5 fun a2 w2 F2 ρ2' l1 l2 l3 lx l4 l5=>hQ a2 w2 F2 ρ2' l1 l2 (k3.trans l3) (fun r l hr hl=>lx r l hr ((jp r hr).trans (kx r l hr hl))) l4 l5).2
          · rename_i x' e1 h1 hne hev
            cases hs;refine vP hrec hloop hf hb hbOK b (2*p) hev (by omega) hat' hB hS hO (sq _ _ hv) hn hd fun a' w' F' ρ' k1 k2 k3 kx k4 k5=>?_
            obtain⟨ρ2,j1,j2,jp⟩:=eV (m:=m) k2 (tC k1 (pol.outs f p));have:=hQ a' w' F' ρ2 (sq _ _ j1) j2 k3 (fun r l hr hl=>(jp r hr).trans (kx r l hr hl)) k4 k5
            cases x with
            | normal=>exact absurd rfl hne
            | exit id=>exact this
            | ret=>exact this
          · cases hs
         exact⟨Q3 body,ZM body⟩
       · cases hs
     · cases hs
   · cases hs
theorem WG {W0:World}{pol:Pol}(hE:lX P W0 pol)(hP:∀ f fn c,pol.no f=false→P.funcs[f]? = some fn→fn.body=some c→xu (nF P pol f) fn.ntmps c=true):∀ n,wF P W0 (it P pol n)∧dW P W0 pol (it P pol n)
 | 0=>⟨⟨fun g args v hs=>by simp[it]at hs,fun gv g args h v h' hs=>by simp[it]at hs⟩,fun f p m vals h x outs h' hs=>by simp[it]at hs⟩
 | n+1=>Rp hE hP (WG hE hP n).1 (WG hE hP n).2
end Go.Proofs.YtefkoljdebekdaaGreatDoor.E
/- The evaluator without a bound on rounds: its answers, its equations. Conditions: those of each lemma. -/
namespace Go.Proofs.YtefkoljdebekdaaGreatDoor.E
variable {P:Program} {pol:Pol}
open Classical in
noncomputable def EV (P:Program)(pol:Pol):Rec:=fun req=>if h:∃ r,∃ n,it P pol n req=some r then some h.choose else none
def Le (a b:Rec):Prop:=∀ req r,a req=some r→b req=some r
structure zW {α:Type} (P:Program) (pol:Pol) (G:Rec→Option α):Prop where
 mono:∀ a b,Le a b→∀ r,G a=some r→G b=some r
 cont:(∀ n,Le (it P pol n) (it P pol (n+1)))→∀ r,G (EV P pol)=some r→∃ n,G (it P pol n)=some r
theorem zW.const {α:Type}(x:Option α):zW P pol (fun _=>x):=⟨fun _ _ _ _ h=>h,fun _ r h=>⟨0,h⟩⟩
theorem Le.le (hm:∀ n,Le (it P pol n) (it P pol (n+1))){n m:Nat}(h:n≤m):Le (it P pol n) (it P pol m):=by
 induction h with
 | refl=>exact fun _ _ x=>x
 | step _ ih=>exact fun req r x=>hm _ req r (ih req r x)
theorem zW.req (req:Req):zW P pol (fun rec=>rec req):=by
 refine⟨fun a b h r hr=>h req r hr,fun hm r hr=>?_⟩;unfold EV at hr
 split at hr
 · rename_i hx;obtain⟨n,hn⟩:=hx.choose_spec
   cases hr;exact⟨n,hn⟩
 · cases hr
theorem zW.bind {α β:Type}{G:Rec→Option α}{H:α→Rec→Option β}(hG:zW P pol G)(hH:∀ a,zW P pol (H a)):zW P pol (fun rec=>(G rec).bind fun a=>H a rec):=by
 refine⟨fun a b h r hr=>?_,fun hm r hr=>?_⟩
 · cases hg:G a with
   | none=>simp[hg]at hr
   | some x =>
    simp only[hg,Option.bind_some]at hr;simp only[hG.mono a b h x hg,Option.bind_some];exact (hH x).mono a b h r hr
 · cases hg:G (EV P pol) with
   | none=>simp[hg]at hr
   | some x =>
    simp only[hg,Option.bind_some]at hr;obtain⟨n,hn⟩:=hG.cont hm x hg;obtain⟨m,hm'⟩:=(hH x).cont hm r hr;refine⟨max n m,?_⟩;simp only[hG.mono _ _ (Le.le hm (Nat.le_max_left n m)) x hn,Option.bind_some];exact (hH x).mono _ _ (Le.le hm (Nat.le_max_right n m)) r hm'
theorem zW.congr {α:Type}{G G':Rec→Option α}(h:∀ rec,G' rec=G rec)(hG:zW P pol G):zW P pol G':=by
 have:G'=G:=funext h;rw[this];exact hG
theorem tH (g:Nat)(args:List V):zW P pol (fun rec=>zy rec g args) :=
 (zW.bind (zW.req (.call g args [])) (fun r=>zW.const (match r with|.call v []=>some v|_=>none))).congr fun rec=>by
  unfold zy
  cases rec (.call g args []) with
  | none=>rfl
  | some r=>cases r with
   | call v h=>cases h<;>rfl
   | loop=>rfl
theorem cC (f:Nat)(N:Option Nat)(dst:Option Nat)(g:Nat)(args:List V)(h:Heap):zW P pol (fun rec=>wZ pol rec f N dst g args h):=by
 unfold wZ
 cases pol.pm f (dst.getD 0) with
 | pure =>
  simp only
  cases asArg.asArgs args with
  | none =>
   simp only
   cases yx.snapVs h args with
   | none=>exact zW.const none
   | some az=>exact (zW.bind (tH g az) (fun v=>zW.const (if zc v then some (v,h) else none))).congr fun rec=>by simp only;cases zy rec g az<;>rfl
  | some az=>exact (zW.bind (tH g az) (fun v=>zW.const (some (v,h)))).congr fun rec=>by simp only;cases zy rec g az<;>rfl
 | frz =>
  simp only
  cases yk.gives h args with
  | none=>exact zW.const none
  | some x=>exact (zW.bind (tH g x.1) (fun v=>zW.const (some (v,x.2)))).congr fun rec=>by simp only;cases zy rec g x.1<;>rfl
 | opn gv =>
  show zW P pol (fun rec=>(match rec (.callO gv g (ym 0 args h).1 (ym 0 args h).2) with
   | some (.call v h1)=>xa N (xI h args) v h1 h
   | _=>none))
  refine (zW.bind (zW.req (.callO gv g (ym 0 args h).1 (ym 0 args h).2)) (fun r=>zW.const (match r with|.call v h1=>xa N (xI h args) v h1 h|_=>none))).congr fun rec=>?_
  generalize rec (.callO gv g (ym 0 args h).1 (ym 0 args h).2)=x
  cases x with
  | none=>rfl
  | some r=>cases r<;>rfl
 | brw=>exact zW.const none
 | all=>exact zW.const none
theorem ZZ (g:Nat)(args:List V)(h:Heap):zW P pol (fun rec=>nT rec g args h):=by
 unfold nT
 cases yx.snapVs h args with
 | none=>exact zW.const none
 | some az =>
  refine (zW.bind (zW.req (.callO false g az [])) (fun r=>zW.const (match r with|.call v h1=>(if zT v&&h1.all yF then xa none [] v h1 h else none)|_=>none))).congr fun rec=>?_
  simp only;generalize rec (.callO false g az [])=x
  cases x with
  | none=>rfl
  | some r=>cases r<;>rfl
theorem Y7 (g:Nat)(args:List V)(h:Heap):zW P pol (fun rec=>eI rec g args h):=by
 unfold eI;refine (zW.bind (zW.req (.callO false g args h)) (fun r=>zW.const (match r with|.call v h1=>some (v,h1)|_=>none))).congr fun rec=>?_
 generalize rec (.callO false g args h)=x
 cases x with
 | none=>rfl
 | some r=>cases r<;>rfl
theorem my (f:Nat)(N:Option Nat)(o:Oper)(e:Env)(h:Heap):zW P pol (fun rec=>zV P pol rec f N o e h):=by
 obtain⟨dst,op,ty,pos,after,guard⟩:=o
 cases op with
 | call c =>
  obtain⟨callee,args,tys⟩:=c
  cases callee with
  | value x =>
   simp only[zV]
   cases fnV (opv P e 0 x) with
   | none=>exact zW.const none
   | some y=>exact cC f N dst y.1 _ h
  | builtin b=>exact zW.const (blt P N b tys.toList (yn P e args.toList tys.toList) h)
  | invoke r m=>exact zW.const none
 | makeFunc fn first caps=>cases fn<;>exact zW.const _
 | _=>simp only[zV];exact zW.const _
theorem fY (f:Nat)(N:Option Nat)(o:Oper)(e:Env)(h:Heap):zW P pol (fun rec=>bare (bN N o) (zV P pol rec f N o e h)):=by
 cases bN N o with
 | none=>exact my f N o e h
 | some k=>exact zW.const none
theorem ZS (f:Nat)(N:Option Nat)(o:Oper)(e:Env)(h:Heap):zW P pol (fun rec=>wD P pol rec f N o e h):=by
 unfold wD
 split
 rotate_left
 · exact my f N o e h
 have old:∀ {G:Rec→Option (V×Heap)},(∀ rec,G rec=none)→zW P pol (fun rec=>match G rec with|some r=>some r|none=>bare (bN N o) (zV P pol rec f N o e h)):=fun hG =>
  (fY f N o e h).congr fun rec=>by rw[hG rec]
 have one:∀ (x:Option (V×Heap)),zW P pol (fun rec=>match x with|some r=>some r|none=>bare (bN N o) (zV P pol rec f N o e h)):=fun x=>by
  cases x with
  | none=>exact fY f N o e h
  | some r=>exact zW.const _
 obtain⟨dst,op,ty,pos,after,guard⟩:=o
 cases op with
 | buildSlice t len parts=>exact one _
 | makeSlice t l c=>exact one _
 | call c =>
  obtain⟨callee,args,tys⟩:=c
  cases callee with
  | builtin b=>exact one _
  | invoke r m=>exact old fun rec=>rfl
  | value x =>
   simp only[yW]
   cases hx:fnV (opv P e 0 x) with
   | none=>exact old fun rec=>rfl
   | some y =>
    simp only
    cases hp:pol.pm f (dst.getD 0) with
    | brw =>
     refine (ZZ y.1 (yn P e args.toList tys.toList++y.2) h).congr fun rec=>?_
     simp only[zV,hx,wZ,hp]
     cases nT rec y.1 (yn P e args.toList tys.toList++y.2) h<;>rfl
    | all =>
     refine (Y7 y.1 (yn P e args.toList tys.toList++y.2) h).congr fun rec=>?_
     simp only[zV,hx,wZ,hp]
     cases eI rec y.1 (yn P e args.toList tys.toList++y.2) h<;>rfl
    | _=>exact old fun rec=>rfl
 | _=>exact old fun rec=>rfl
theorem lH (f:Nat)(N:Option Nat)(ops:Array Oper)(o:Oper)(e:Env)(h:Heap):zW P pol (fun rec=>wq P pol rec f N ops o e h):=by
 unfold wq
 cases want ops o e with
 | none=>exact zW.const none
 | some b=>cases b with
  | false=>exact zW.const _
  | true=>exact (zW.bind (ZS f N o e h) (fun x=>zW.const (some (put e o.dst x.1,x.2)))).congr fun rec=>by simp only;cases wD P pol rec f N o e h<;>rfl
theorem jn (f:Nat)(N:Option Nat)(ops:Array Oper)(o:Oper)(e:Env)(h:Heap):zW P pol (fun rec=>uN P pol rec f N ops o e h):=by
 unfold uN
 cases want ops o e with
 | none=>exact zW.const none
 | some b=>cases b with
  | false=>exact zW.const _
  | true=>exact (zW.bind (my f N o e h) (fun x=>zW.const (some (put e o.dst x.1,x.2)))).congr fun rec=>by simp only;cases zV P pol rec f N o e h<;>rfl
theorem jl (f:Nat)(ops:Array Oper):∀ (l:List Oper) (e:Env) (h:Heap),zW P pol (fun rec=>sK P pol rec f ops l e h)
 | [],e,h=>zW.const _
 | o::l,e,h=>(zW.bind (lH f none ops o e h) (fun x=>jl f ops l x.1 x.2)).congr fun rec=>by simp only[sK];cases wq P pol rec f none ops o e h<;>rfl
theorem lF (f:Nat)(ops:Array Oper):∀ (l:List Oper) (e:Env) (h:Heap),zW P pol (fun rec=>wY P pol rec f ops l e h)
 | [],e,h=>zW.const _
 | o::l,e,h=>(zW.bind (jn f none ops o e h) (fun x=>lF f ops l x.1 x.2)).congr fun rec=>by simp only[wY];cases uN P pol rec f none ops o e h<;>rfl
theorem aP (f:Nat)(ops:Array Oper):∀ (Ns:List (Option Nat)) (l:List Oper) (e:Env) (h:Heap),zW P pol (fun rec=>evD P pol rec f ops Ns l e h)
 | [],[],e,h=>zW.const _
 | [],_::_,e,h=>zW.const none
 | _::_,[],e,h=>zW.const none
 | N::Ns,o::l,e,h=>(zW.bind (jn f N ops o e h) (fun x=>zW.bind (aP f ops Ns l x.1 x.2) (fun y=>zW.const (some (wv N o e h::y.1,y.2.1,y.2.2))))).congr fun rec=>by
  simp only[evD]
  cases uN P pol rec f N ops o e h with
  | none=>rfl
  | some x=>simp only[Option.bind_some];cases evD P pol rec f ops Ns l x.1 x.2<;>rfl
theorem aM (f:Nat)(ops:Array Oper):∀ (Ns:List (Option Nat)) (l:List Oper) (e:Env) (h:Heap),zW P pol (fun rec=>evR P pol rec f ops Ns l e h)
 | _,[],e,h=>zW.const _
 | Ns,o::l,e,h=>(zW.bind (lH f (hdN Ns) ops o e h) (fun x=>zW.bind (aM f ops Ns.tail l x.1 x.2) (fun y=>zW.const (some ((h.length::yg (hdN Ns) o e h)::y.1,y.2.1,y.2.2))))).congr fun rec=>by
  simp only[evR]
  cases wq P pol rec f (hdN Ns) ops o e h with
  | none=>rfl
  | some x=>simp only[Option.bind_some];cases evR P pol rec f ops Ns.tail l x.1 x.2<;>rfl
theorem UL (f:Nat)(kp:Bool)(ops:Array Oper)(e:Env)(h:Heap):zW P pol (fun rec=>evZ P pol rec f kp ops e h) :=
 (zW.bind (aM f ops (if kp then kids h.length ops.toList else []) ops.toList e (if kp then h++List.replicate (nJ ops.toList) .dead else h)) (fun y=>zW.const (if zOK pol f kp ops y.1 then some (y.2.1,y.2.2) else none))).congr fun rec=>by
  unfold evZ
  cases evR P pol rec f ops (if kp then kids h.length ops.toList else []) ops.toList e (if kp then h++List.replicate (nJ ops.toList) .dead else h)<;>rfl
theorem cy (f:Nat)(ops:Array Oper)(e:Env)(h:Heap):zW P pol (fun rec=>tj P pol rec f ops e h) :=
 (zW.bind (aP f ops (vW pol f h.length ops.toList) ops.toList e (h++List.replicate (wR pol f ops.toList) .dead)) (fun y=>zW.const (if Zr pol f ops y.1 then some (y.2.1,y.2.2) else none))).congr fun rec=>by
  unfold tj
  cases evD P pol rec f ops (vW pol f h.length ops.toList) ops.toList e (h++List.replicate (wR pol f ops.toList) .dead)<;>rfl
theorem uj (f m:Nat):∀ (c:Code) (p:Nat) (e:Env) (h:Heap),zW P pol (fun rec=>evC P pol rec f m c p e h)
 | .skip,p,e,h=>zW.const _
 | .exit _,p,e,h=>zW.const _
 | .ret,p,e,h=>zW.const _
 | .seq a b, p, e, h => (zW.bind (uj f m a (2 * p) e h) (fun x => (match x with
  | (.normal,e',h')=>uj f m b (2*p+1) e' h'
  | (.exit id,e',h')=>zW.const (some (Exi.exit id,e',h'))
  | (.ret,e',h')=>zW.const (some (Exi.ret,e',h')):zW P pol (fun rec=>match x with
  | (.normal,e',h')=>evC P pol rec f m b (2*p+1) e' h'
  | (.exit id,e',h')=>some (.exit id,e',h')
  | (.ret,e',h')=>some (.ret,e',h'))))).congr fun rec=>by
   simp only[evC]
   cases evC P pol rec f m a (2*p) e h with
   | none=>rfl
   | some x=>obtain⟨x,e',h'⟩:=x;cases x<;>rfl
 | .cond c a b,p,e,h=>by
  simp only[evC]
  split
  · rename_i t ht
    cases t with
    | true=>exact uj f m a (2*p) e h
    | false=>exact uj f m b (2*p+1) e h
  · exact zW.const none
 | .block id c, p, e, h => (zW.bind (uj f m c (2 * p) e h) (fun x => zW.const (match x with
  | (.exit id',e',h')=>if id'=id then some (.normal,e',h') else some (.exit id',e',h')
  | r=>some r))).congr fun rec=>by
   simp only[evC]
   cases evC P pol rec f m c (2*p) e h with
   | none=>rfl
   | some x=>obtain⟨x,e',h'⟩:=x;cases x<;>rfl
 | .loop _, p, e, h => (zW.bind (zW.req (.loop f p m (ym m ((pol.live f p).map e) h).1 (ym m ((pol.live f p).map e) h).2)) (fun x => zW.const (match x with
  | .loop x vals h'=>some (x,zb (pol.outs f p) vals,h')
  | _=>none))).congr fun rec=>by
   simp only[evC]
   cases rec (.loop f p m (ym m ((pol.live f p).map e) h).1 (ym m ((pol.live f p).map e) h).2) with
   | none=>rfl
   | some x=>cases x<;>rfl
 | .region id ops draw,p,e,h=>by
  simp only[evC]
  split
  · exact zW.const none
  · split
    · split
      · exact (zW.bind (UL f (pol.dm f (id+1000)) ops e (ghH (pol.gh f id) e h)) (fun x=>zW.const (some (Exi.normal,x.1,x.2)))).congr fun rec=>by cases evZ P pol rec f (pol.dm f (id+1000)) ops e (ghH (pol.gh f id) e h)<;>rfl
      · exact (zW.bind (cy f ops e (ghH (pol.gh f id) e h)) (fun x=>zW.const (some (Exi.normal,x.1,x.2)))).congr fun rec=>by cases tj P pol rec f ops e (ghH (pol.gh f id) e h)<;>rfl
    · split
      · exact (zW.bind (lF f ops ops.toList e (ghH (pol.gh f id) e h)) (fun x=>zW.const (some (Exi.normal,x.1,x.2)))).congr fun rec=>by cases wY P pol rec f ops ops.toList e (ghH (pol.gh f id) e h)<;>rfl
      · exact (zW.bind (jl f ops ops.toList e (ghH (pol.gh f id) e h)) (fun x=>zW.const (some (Exi.normal,x.1,x.2)))).congr fun rec=>by cases sK P pol rec f ops ops.toList e (ghH (pol.gh f id) e h)<;>rfl
 | .rangeFunc _ _ _ _,p,e,h=>zW.const _
 | .scope _,p,e,h=>zW.const _
 | .label _,p,e,h=>zW.const _
 | .goto _,p,e,h=>zW.const _
 | .refuse _,p,e,h=>zW.const _
theorem qo (req : Req) : zW P pol (fun rec => step P pol rec req) := by
 cases req with
 | call f args h =>
  simp only[step]
  cases pol.ext f args with
  | some v=>exact zW.const _
  | none =>
  simp only
  cases P.funcs[f]? with
  | none=>exact zW.const none
  | some fn =>
   simp only
   cases fn.body with
   | none=>exact zW.const none
   | some c =>
    simp only
    split
    · exact zW.const none
    · refine (zW.bind (uj f h.length c 1 (zb (List.range args.length) args) h) (fun x=>zW.const (match x with
       | (.normal, e', h') => (match vJ P e' h' fn.results.toList with
        | some vs=>match yk h' (zm vs) with
         | some (v,h'')=>some (xV.call v (h''.take h.length))
         | none=>none
        | none=>none)
       | (.ret, e', h') => (match vJ P e' h' fn.results.toList with
        | some vs=>match yk h' (zm vs) with
         | some (v,h'')=>some (xV.call v (h''.take h.length))
         | none=>none
        | none=>none)
       | _=>none))).congr fun rec=>?_
      cases evC P pol rec f h.length c 1 (zb (List.range args.length) args) h with
      | none=>rfl
      | some x=>obtain⟨x,e',h'⟩:=x;cases x<;>rfl
 | callO gv f args h =>
  simp only[step]
  cases pol.extO f args h with
  | some x=>exact zW.const _
  | none =>
  simp only
  cases P.funcs[f]? with
  | none=>exact zW.const none
  | some fn =>
   simp only
   cases fn.body with
   | none=>exact zW.const none
   | some c =>
    simp only
    split
    · exact zW.const none
    · refine (zW.bind (uj f h.length c 1 (zb (List.range args.length) args) h) (fun x=>zW.const (match x with
       | (.normal,e',h')=>nu gv h.length (vJ P e' h' fn.results.toList) h'
       | (.ret,e',h')=>nu gv h.length (vJ P e' h' fn.results.toList) h'
       | _=>none))).congr fun rec=>?_
      cases evC P pol rec f h.length c 1 (zb (List.range args.length) args) h with
      | none=>rfl
      | some x=>obtain⟨x,e',h'⟩:=x;cases x<;>rfl
 | loop f p m vals h =>
  simp only[step]
  cases P.funcs[f]? with
  | none=>exact zW.const none
  | some fn =>
   simp only
   cases fn.body with
   | none=>exact zW.const none
   | some c =>
    simp only
    split
    · rename_i b hb;refine (zW.bind (uj f m b (2*p) (zb (pol.live f p) vals) h) (fun x=>(match x with
       | (.normal,e',h')=>zW.req (.loop f p m (ym m ((pol.live f p).map e') h').1 (ym m ((pol.live f p).map e') h').2)
       | (.exit id,e',h')=>zW.const (some (xV.loop (.exit id) (ym m ((pol.outs f p).map e') h').1 (ym m ((pol.outs f p).map e') h').2))
       | (.ret,e',h')=>zW.const (some (xV.loop .ret (ym m ((pol.outs f p).map e') h').1 (ym m ((pol.outs f p).map e') h').2)):zW P pol (fun rec=>match x with
       | (.normal,e',h')=>rec (.loop f p m (ym m ((pol.live f p).map e') h').1 (ym m ((pol.live f p).map e') h').2)
       | (.exit id,e',h')=>some (.loop (.exit id) (ym m ((pol.outs f p).map e') h').1 (ym m ((pol.outs f p).map e') h').2)
       | (.ret,e',h')=>some (.loop .ret (ym m ((pol.outs f p).map e') h').1 (ym m ((pol.outs f p).map e') h').2))))).congr fun rec=>?_
      cases evC P pol rec f m b (2*p) (zb (pol.live f p) vals) h with
      | none=>rfl
      | some x=>obtain⟨x,e',h'⟩:=x;cases x<;>rfl
    · exact zW.const none
theorem nA:∀ n,Le (it P pol n) (it P pol (n+1))
 | 0=>fun req r h=>by simp[it]at h
 | n+1=>fun req r h=>(qo req).mono _ _ (nA n) r h
theorem R9 {n:Nat}{req:Req}{r:xV}(h:it P pol n req=some r):EV P pol req=some r:=by
 unfold EV;have hx:∃ r,∃ n,it P pol n req=some r:=⟨r,n,h⟩;rw[dif_pos hx];obtain⟨m,hm⟩:=hx.choose_spec;have h1:=Le.le nA (Nat.le_max_left n m) req r h;have h2:=Le.le nA (Nat.le_max_right n m) req _ hm;rw[h1]at h2;exact h2.symm
theorem WQ {req:Req}{r:xV}(h:EV P pol req=some r):∃ n,it P pol n req=some r:=(zW.req req).cont nA r h
theorem qT {req:Req}{r:xV}(h:step P pol (EV P pol) req=some r):EV P pol req=some r:=by
 obtain⟨n,hn⟩:=(qo req).cont nA r h;exact R9 (n:=n+1) hn
theorem l7 {g:Nat}{args:List V}{v:V}(h:pol.ext g args=some v):EV P pol (.call g args [])=some (.call v []):=by
 apply qT;simp[step,h]
theorem kD {g:Nat}{args:List V}{h:Heap}{x:V×Heap}(hx:pol.extO g args h=some x):EV P pol (.callO false g args h)=some (.call x.1 x.2):=by
 apply qT;simp[step,hx]
theorem Wt {W0:World}(hE:lX P W0 pol)(hP:∀ f fn c,pol.no f=false→P.funcs[f]? = some fn→fn.body=some c→xu (nF P pol f) fn.ntmps c=true){g:Nat}{args:List V}{v:V}(h:EV P pol (.call g args [])=some (.call v [])) :
 ∀ (w:World) (F:Nat→Prop) (us:Array Value),vQ W0 w F→(∀ b,F b→b<w.heap.size)→RVs w F zP us.toList args →
  Calls P g us w fun e w'=>∃ u F',e=.returned u∧RV w' F' zP u v∧(∀ b,F' b→b<w'.heap.size)∧Nxt (own fun b=>w.heap.size≤b) w F zP w' F' zP:=by
 obtain⟨n,hn⟩:=WQ h;exact ((WG hE hP n).1.clo g args v hn).2
theorem iH {W0:World}(hE:lX P W0 pol)(hP:∀ f fn c,pol.no f=false→P.funcs[f]? = some fn→fn.body=some c→xu (nF P pol f) fn.ntmps c=true){gv:Bool}{g:Nat}{args:List V}{h h':Heap}{v:V}(hv:EV P pol (.callO gv g args h)=some (.call v h')) :
 (∃ fn, P.funcs[g]? = some fn ∧ (fn.name == "runtime.NumGoroutine") = false ∧ fn.body.isNone = false) ∧
 ∀ (Ow:Own) (w:World) (F:Nat→Prop) (ρ:yc) (us:Array Value),vQ W0 w F→St w F ρ Ow h→OkC Ow w→RVs w F ρ us.toList args →
  Calls P g us w fun e w'=>∃ u F' ρ',e=.returned u∧RV w' F' ρ' u v∧St w' F' ρ' Ow h'∧Nxt Ow w F zP w' F' zP∧∀ r l,r<h.length→ρ r=some l→ρ' r=some l:=by
 obtain⟨n,hn⟩:=WQ hv;exact (WG hE hP n).1.opn gv g args h v h' hn
end Go.Proofs.YtefkoljdebekdaaGreatDoor.E

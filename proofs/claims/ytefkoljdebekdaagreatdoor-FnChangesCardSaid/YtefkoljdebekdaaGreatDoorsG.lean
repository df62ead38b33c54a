/- Joined: E12X E13 E14. Conditions: those of each lemma. -/
import Derived.Test.YtefkoljdebekdaaGreatDoorsF
set_option linter.unusedVariables false
set_option linter.unusedSimpArgs false
namespace Go.Proofs.YtefkoljdebekdaaGreatDoor.E
variable {P:Program} {w:World} {F:Nat→Prop} {ρ:y9} {Ow:Own} {h:Heap} {pol:Pol} {rec:Rec} {f:Nat} {N:Option Nat} {ops:Array Oper}
theorem cj {o:Oper}(h1:ym pol f o=true)(h2:okK pol f o=true):False:=by
 obtain⟨dst,op,ty,pos,after,guard⟩:=o
 cases op with
 | call c =>
  obtain⟨callee,args,tys⟩:=c
  cases callee with
  | builtin b=>cases b<;>simp[ym,okK]at h1 h2
  | value x=>cases hp:pol.pm f (dst.getD 0)<;>simp[ym,okK,hp]at h1 h2
  | invoke r m=>simp[okK]at h2
 | _=>simp[ym,okK]at h1 h2
theorem lW {o:Oper}(hn:ym pol f o=true){e:Env}:yS P pol rec f N o e h=none:=by
 obtain⟨dst,op,ty,pos,after,guard⟩:=o
 cases op with
 | call c =>
  obtain⟨callee,args,tys⟩:=c
  cases callee with
  | builtin b=>cases b<;>simp[ym]at hn<;>simp[yS]
  | value x =>
   simp only[ym]at hn;unfold yS;simp only
   split
   · split
     · rename_i hp;rw[hp]at hn;cases hn
     · rename_i hp;rw[hp]at hn;cases hn
     · rfl
   · rfl
  | invoke r m=>simp[ym]at hn
 | _=>first|rfl|simp[ym]at hn
theorem po {o:Oper}(hn:ym pol f o=true){e:Env}:we P pol rec f none o e h=zU P pol rec f none o e h:=by
 have hb:isB o=false:=by
  obtain⟨dst,op,ty,pos,after,guard⟩:=o
  cases op<;>first|rfl|simp[ym]at hn
 unfold we;rw[lW hn,show bN none o=none by unfold bN;rw[hb];rfl]
 split<;>rfl
def wx (P:Program)(pol:Pol)(rec:Rec)(f:Nat)(N:Option Nat)(ops:Array Oper)(o:Oper)(e:Env)(h:Heap):Option (V×Heap) :=
 match want ops o e with
 | some true=>we P pol rec f N o e h
 | some false=>some (.und,h)
 | none=>none
theorem gm (o:Oper)(e:Env):w5 P pol rec f N ops o e h=match wx P pol rec f N ops o e h with|some (v,h')=>some (put e o.dst v,h')|none=>none:=by
 unfold w5 wx
 cases want ops o e with
 | none=>rfl
 | some b=>cases b with
  | false=>rfl
  | true=>simp only;cases we P pol rec f N o e h<;>rfl
theorem eQ {o:Oper}(hn:okK pol f o=true){e e':Env}(hs:wM ops o e e'):yS P pol rec f N o e h=yS P pol rec f N o e' h:=by
 have ho:∀ {x:Operand},x∈o.op.operands→∀ ty,opv P e ty x=opv P e' ty x:=fun hx ty=>hs.opv ty hx
 obtain⟨dst,op,ty,pos,after,guard⟩:=o
 cases op with
 | buildSlice t len parts =>
  simp only[yS]
  cases yo P t with
  | none=>rfl
  | some el=>simp only;rw[uf _ parts.toList fun x hx t=>ho (by simp only[Op.operands,List.mem_toArray];exact hx) t]
 | makeSlice t l c=>simp only[yS,ho (x:=l) (by simp[Op.operands]),ho (x:=c) (by simp[Op.operands])]
 | call c =>
  obtain⟨callee,args,tys⟩:=c
  cases callee with
  | builtin b =>
   simp only[yS];rw[wU args.toList tys.toList fun y hy ty=>ho (by simpa [Op.operands,Call.operands] using hy) ty]
  | value x =>
   simp only[yS];rw[wU args.toList tys.toList fun y hy ty=>ho (by simp[Op.operands,Call.operands];right;simpa using hy) ty,ho (x:=x) (by simp[Op.operands,Call.operands])]
  | invoke r m=>rfl
 | _=>rfl
theorem eY {o:Oper}(hn:okK pol f o=true){e e':Env}(hs:wM ops o e e'):zU P pol rec f N o e h=zU P pol rec f N o e' h:=by
 by_cases hsf:soft pol f o=true
 · exact pj hsf hs
 · obtain⟨dst,op,ty,pos,after,guard⟩:=o
   cases op with
   | call c =>
    obtain⟨callee,args,tys⟩:=c
    cases callee with
    | builtin b=>cases b<;>simp[okK,soft,ym,xr]at hn hsf
    | value x =>
     have ho:opv P e 0 x=opv P e' 0 x:=hs.opv 0 (by simp[Op.operands,Call.operands]);simp only[zU,ho]
     cases fnV (opv P e' 0 x) with
     | none=>rfl
     | some y =>
      simp only[okK]at hn;have hargs:yl P e args.toList tys.toList=yl P e' args.toList tys.toList:=wU args.toList tys.toList fun y hy ty=>hs.opv ty (by simp[Op.operands,Call.operands];right;simpa using hy)
      cases hp:pol.pm f (dst.getD 0)<;>simp[hp]at hn
      · simp only[wL,hp,hargs]
      · simp only[wL,hp]
    | invoke r m=>simp[okK]at hn
   | _=>simp[okK,soft,ym,xr]at hn hsf
theorem xa {o:Oper}(hn:(ym pol f o=true∧N=none)∨okK pol f o=true){e e':Env}(hs:wM ops o e e'):wx P pol rec f N ops o e h=wx P pol rec f N ops o e' h:=by
 unfold wx;rw[qS hs];rcases hn with⟨hn,rfl⟩|hn
 · rw[po hn,po hn,pj (by simp[soft,hn]) hs]
 · unfold we;rw[eQ hn hs,eY hn hs]
theorem l7 {o:Oper}(hn:ym pol f o=true){e:Env}:wx P pol rec f none ops o e h=ev1 P pol rec f none ops o e h:=by
 unfold wx ev1;rw[po hn]
 all_goals rfl
def u6 (fp:List Nat)(h h1:Heap):Prop:=∀ r,r<h.length→r∉fp→h1[r]? = h[r]?
theorem u6.app {fp:List Nat}{k:Heap}:u6 fp h (h++k):=fun r hr _=>List.getElem?_append_left hr
theorem u6.loc {fp:List Nat}{h1 h2:Heap}{k:Heap}(hl:h1.length=h.length)(hk:u6 fp h h1)(e:h2=h1++k):u6 fp h h2:=fun r hr hn=>by
 rw[e,List.getElem?_append_left (by omega)];exact hk r hr hn
theorem Vx {g:Nat}{args:List V}{v:V}{h1:Heap}(hev:n5 rec g args h=some (v,h1)){fp:List Nat}:u6 fp h h1:=by
 unfold n5 at hev
 split at hev
 · split at hev
   · split at hev
     · unfold x7 at hev
       split at hev
       · cases hev
       · cases hev;simp only[z1];exact u6.app
     · cases hev
   · cases hev
 · cases hev
theorem Wd {ty tx:TypeId}{s x v:V}{h h1:Heap}(hev:yf P ty tx s x h=some (v,h1)){fp:List Nat}(hs:∀ r∈refs s,r∈fp):u6 fp h h1:=by
 unfold yf at hev
 split at hev
 · split at hev
   · rename_i r off len cap r2 off2 len2 cap2
     split at hev
     · split at hev
       · cases hev;refine u6.loc (h1:=h.set r .dead) (by simp) (fun k hk hn=>?_) rfl;exact List.getElem?_set_ne fun e:r=k=>hn (hs k (by simp[refs,e]))
       · cases hev
     · cases hev
   · cases hev
 · cases hev
theorem We {ty tx:TypeId}{s x v:V}{h h1:Heap}(hev:yg P ty tx s x h=some (v,h1)){fp:List Nat}(hs:∀ r∈refs s,r∈fp)(hx:∀ r∈refs x,r∈fp):u6 fp h h1:=by
 unfold yg at hev
 split at hev
 · split at hev
   · rename_i r off len cap r2 off2 len2 cap2
     split at hev
     · split at hev
       · cases hev;intro k hk hn;rw[List.getElem?_set_ne fun e:r2=k=>hn (hx k (by simp[refs,e])),List.getElem?_append_left (by simpa using hk)];exact List.getElem?_set_ne fun e:r=k=>hn (hs k (by simp[refs,e]))
       · cases hev
     · cases hev
   · cases hev
 · cases hev
theorem gJ {ty tx:TypeId}{s x v:V}{h h1:Heap}(hev:(match yf P ty tx s x h with|some q=>some q|none=>yg P ty tx s x h)=some (v,h1)){fp:List Nat}(hs:∀ r∈refs s,r∈fp)(hx:∀ r∈refs x,r∈fp):u6 fp h h1:=by
 split at hev
 · rename_i q hq;cases hev;exact Wd hq hs
 · exact We hev hs hx
theorem rU {dst:Option Nat}{cl:Callee}{args:Array Operand}{tys:Array TypeId}{ty:TypeId}{pos:String}{after:Array Edge}{guard:Option (Nat×Bool)}{e:Env}{s:V}{r:Nat}(hm:s∈yl P e args.toList tys.toList)(hr:r∈refs s) :
 r∈yb none ⟨dst,.call ⟨cl,args,tys⟩,ty,pos,after,guard⟩ e h:=by
 have hx:∀ (xs:List Operand) (ts:List TypeId),s∈yl P e xs ts→∃ x∈xs,∃ t,s=opv P e t x:=by
  intro xs
  induction xs with
  | nil=>intro ts h;simp[yl]at h
  | cons y ys ih =>
   intro ts h
   cases ts with
   | nil =>
    simp only[yl,List.mem_cons]at h;rcases h with h|h
    · exact⟨y,by simp,0,h⟩
    · obtain⟨x,h1,t,h2⟩:=ih [] h;exact⟨x,by simp[h1],t,h2⟩
   | cons t ts =>
    simp only[yl,List.mem_cons]at h;rcases h with h|h
    · exact⟨y,by simp,t,h⟩
    · obtain⟨x,h1,t,h2⟩:=ih ts h;exact⟨x,by simp[h1],t,h2⟩
 obtain⟨x,h1,t,rfl⟩:=hx _ _ hm;refine tZ (P:=P) (ty:=t) ?_ hr
 cases cl<;>simp[Op.operands,Call.operands]<;>first|exact .inr (by simpa using h1)|simpa using h1
theorem W1 {sz:Nat}{zs:List V}{r off len:Nat}{v:V}{h1:Heap}(hc:yu sz zs r off len h=some (v,h1)){fp:List Nat}(hs:r∈fp):u6 fp h h1:=by
 have key:∀ b,h1=h.set r b→u6 fp h h1:=fun b e k hk hn=>by
  rw[e];exact List.getElem?_set_ne fun e':r=k=>hn (e'▸hs)
 unfold yu at hc
 split at hc
 · split at hc
   · split at hc
     · cases hc;exact key _ rfl
     · cases hc
   · cases hc
 · split at hc
   · cases hc;exact key _ rfl
   · cases hc
 · cases hc
theorem XZ {t:TypeId}{x v:V}{h1:Heap}(hc:yr P t x h=some (v,h1)){fp:List Nat}(hs:∀ r∈refs x,r∈fp):u6 fp h h1:=by
 unfold yr at hc
 split at hc
 · split at hc
   · cases hc;exact fun r _ _=>rfl
   · split at hc
     · exact W1 hc (hs _ (by simp[refs]))
     · cases hc
   · cases hc
 · cases hc
theorem WM {o : Oper} (hn : okK pol f o = true) {e : Env} {v : V} {h1 : Heap} (hev : yS P pol rec f none o e h = some (v, h1)) : u6 (yb none o e h) h h1 := by
 have hf:∀ {x:Operand} {ty:TypeId},x∈o.op.operands→∀ r∈refs (opv P e ty x),r∈yb none o e h:=fun hx r hr=>tZ hx hr
 obtain⟨dst,op,ty,pos,after,guard⟩:=o
 cases op with
 | buildSlice t len parts =>
  simp only[yS]at hev
  (repeat' split at hev)<;>first|(cases hev;done)|(cases hev;exact u6.app)
 | makeSlice t l c =>
  simp only[yS]at hev
  (repeat' split at hev)<;>first|(cases hev;done)|(cases hev;exact u6.app)
 | call c =>
  obtain⟨callee,args,tys⟩:=c
  cases callee with
  | builtin b =>
   simp only[yS]at hev
   split at hev
   · rename_i s x t u ha ht;have hs:∀ r∈refs s,r∈yb none ⟨dst,.call ⟨.builtin .append,args,tys⟩,ty,pos,after,guard⟩ e h:=fun r hr=>by
      have hm:s∈yl P e args.toList tys.toList:=by rw[ha];simp
      have:r∈refs.refss (yl P e args.toList tys.toList):=by rw[ha];simp[refs.refss,hr]
      unfold yb;refine List.mem_append.2 (.inr (nE ?_))
      have hx : ∀ (xs : List Operand) (ts : List TypeId), r ∈ refs.refss (yl P e xs ts) → r ∈ za e xs := by
       intro xs
       induction xs with
       | nil=>intro ts h;simp[yl,refs.refss]at h
       | cons y ys ih =>
        intro ts h;have key:∀ (ty:TypeId) ts',r∈refs (opv P e ty y)∨r∈refs.refss (yl P e ys ts')→r∈za e (y::ys):=fun ty ts' h=>by
         rcases h with h|h
         · obtain⟨t,rfl,ht⟩:=tV h;exact wc ht (by simp)
         · have:=ih ts' h
           cases y<;>simp only[za]<;>first|exact this|exact List.mem_append.2 (.inr this)
        cases ts with
        | nil=>simp only[yl,refs.refss,List.mem_append]at h;exact key 0 [] h
        | cons t ts=>simp only[yl,refs.refss,List.mem_append]at h;exact key t ts h
      have:=hx _ _ this;simpa [Op.operands,Call.operands] using this
     have hx:∀ r∈refs x,r∈yb none ⟨dst,.call ⟨.builtin .append,args,tys⟩,ty,pos,after,guard⟩ e h:=fun r hr=>rU (s:=x) (by rw[ha];simp) hr
     unfold yn at hev
     split at hev
     · rename_i sz;have hk:=gJ (fp:=h.length::yb none ⟨dst,.call ⟨.builtin .append,args,tys⟩,ty,pos,after,guard⟩ e h) hev (fun r hr=>by simp[refs]at hr;simp[hr]) (fun r hr=>List.mem_cons_of_mem _ (hx r hr));intro r hr hn;have:=hk r (by simp;omega) (fun e=>(List.mem_cons.1 e).elim (fun e=>by omega) hn);rw[this,List.getElem?_append_left hr]
     · exact gJ hev hs hx
   · rename_i x t ha ht;exact XZ hev fun r hr=>rU (s:=x) (by rw[ha];simp) hr
   · cases hev
  | value x =>
   simp only[yS]at hev
   split at hev
   · split at hev
     · exact Vx hev
     · rename_i hp;simp[okK,hp]at hn
     · cases hev
   · cases hev
  | invoke r m=>simp[yS]at hev
 | _=>simp[yS]at hev
theorem bJ {ty tx : TypeId} {s x v : V} {h1 : Heap} (hc : app P none ty tx s x h = some (v, h1)) {fp : List Nat} (hs : ∀ r ∈ refs s, r ∈ fp) : u6 fp h h1 := by
 unfold app at hc
 split at hc
 · cases hc
 · split at hc
   · cases hc
   · split at hc
     · split at hc
       · cases hc;simp only[nH];exact u6.app
       · cases hc
     · rename_i r off len cap
       split at hc
       · split at hc
         · cases hc;simp only[nH];refine u6.loc (h1:=h.set r .dead) (by simp) (fun k hk hn=>?_) rfl;exact List.getElem?_set_ne fun e:r=k=>hn (hs k (by simp[refs,e]))
         · cases hc
       · cases hc
     · cases hc
theorem Vy {tys:List TypeId}{args:List V}{v:V}{h1:Heap}(hc:blt P none .append tys args h=some (v,h1)){fp:List Nat}(hs:∀ s∈args,∀ r∈refs s,r∈fp):u6 fp h h1:=by
 unfold blt at hc
 split at hc
 · rename_i hb;cases hb
 · split at hc
   · exact bJ hc (hs _ (by simp))
   · cases hc
 · rename_i hb;cases hb
 · rename_i hb;cases hb
 · cases hc
theorem jK {ids fp:List Nat}(hsub:∀ r∈ids,r∈fp){v v':V}{h1' h1:Heap}(hb:x7 none ids v h1' h=some (v',h1)):u6 fp h h1:=by
 unfold x7 at hb
 split at hb
 · cases hb
 · cases hb;intro r hr hn;rw[List.getElem?_append_left (by rw[xg];exact hr),wX _ _ _ _ _ fun hx=>absurd (hsub r hx) hn]
theorem cf {o : Oper} (hn : okK pol f o = true) {e : Env} {v : V} {h1 : Heap} (hev : zU P pol rec f none o e h = some (v, h1)) : u6 (yb none o e h) h h1 := by
 have hf:∀ {x:Operand} {ty:TypeId},x∈o.op.operands→∀ r∈refs (opv P e ty x),r∈yb none o e h:=fun hx r hr=>tZ hx hr
 obtain⟨dst,op,ty,pos,after,guard⟩:=o
 cases op with
 | alloc t =>
  simp only[zU]at hev
  (repeat' split at hev)<;>first|(cases hev;done)|(cases hev;exact u6.app)
 | box t x =>
  simp only[zU]at hev
  (repeat' split at hev)<;>first|(cases hev;done)|(cases hev;exact u6.app)
 | makeSlice t l c =>
  simp only[zU]at hev
  (repeat' split at hev)<;>first|(cases hev;done)|(cases hev;exact u6.app)
 | buildSlice t len parts =>
  simp only[zU]at hev
  split at hev
  · rename_i el hel
    split at hev
    · cases hev
    · split at hev
      · rename_i css hcs
        split at hev
        · rename_i es h' hg
          cases hev;have hsub:∀ r∈refs.refss css.flatten,r∈yb none ⟨dst,.buildSlice t len parts,ty,pos,after,guard⟩ e h:=fun r hr=>by
           obtain⟨u,hu,hr2⟩:=ph hcs r hr;obtain⟨x,t',hx,rfl⟩:=qZ hu;exact hf (x:=x) (ty:=t') (by simp only[Op.operands,List.mem_toArray];exact hx) r hr2
          obtain⟨h3,g1,g2⟩:=pg (fp:=yb none ⟨dst,.buildSlice t len parts,ty,pos,after,guard⟩ e h) rfl hsub (fun _ _=>rfl) hg;refine u6.loc (h1:=h') g2.l1 (fun k hk hn=>g2.off1 k hn) rfl
        · cases hev
      · cases hev
  · cases hev
 | call c =>
  obtain⟨callee,args,tys⟩:=c
  cases callee with
  | builtin b =>
   cases b<;>simp[okK]at hn
   simp only[zU]at hev;exact Vy hev fun s hm r hr=>rU hm hr
  | value x =>
   simp only[okK]at hn;simp only[zU]at hev
   split at hev
   · rename_i g caps hg
     cases hp:pol.pm f (dst.getD 0)<;>simp[hp]at hn
     · simp only[wL,hp]at hev;have hsub:∀ r∈xy h (yl P e args.toList tys.toList++caps),r∈yb none ⟨dst,.call ⟨.value x,args,tys⟩,ty,pos,after,guard⟩ e h:=fun r hr=>by
        unfold yb qo;rw[if_pos (by simp[wD])];refine List.mem_append.2 (.inr (qX h 3 _ _ (fun k hk=>?_) r hr));rw[wv]at hk ⊢;rcases hk with hk|hk
        · cases hk
        · exact .inr (by simpa [Op.operands,Call.operands] using nQ hg k hk)
       split at hev
       · rename_i v' h1' hr;exact jK hsub hev
       · cases hev
     · simp only[wL,hp]at hev
       cases hev
   · cases hev
  | invoke r m=>simp[okK]at hn
 | _=>simp[okK]at hn
theorem Tl {o:Oper}(hn:okK pol f o=true){e:Env}{v:V}{h1:Heap}(hev:wx P pol rec f none ops o e h=some (v,h1)):u6 (yb none o e h) h h1:=by
 unfold wx at hev
 split at hev
 · unfold we at hev
   split at hev
   · split at hev
     · rename_i r hr;cases hev;exact WM hn hr
     · unfold bare at hev
       split at hev
       · exact cf hn hev
       · cases hev
   · exact cf hn hev
 · cases hev;exact fun r _ _=>rfl
 · cases hev
theorem wQ {o:Oper}(hn:ym pol f o=true){e:Env}{v:V}{h':Heap}(hev:wx P pol rec f none ops o e h=some (v,h')):h'=h:=by
 rw[l7 hn]at hev;exact oA hn hev
theorem Zk {o:Oper}(hn:ym pol f o=true){e:Env}{h2:Heap}(ha:∀ r∈yb none o e h,h2[r]? = h[r]?){v:V}(hev:wx P pol rec f none ops o e h=some (v,h)):wx P pol rec f none ops o e h2=some (v,h2):=by
 rw[l7 hn]at hev ⊢;unfold ev1 at hev ⊢
 split at hev
 · exact cw hn ha hev
 · cases hev;rfl
 · cases hev
theorem WW {o:Oper}(hb:isB o=true)(hn:ym pol f o=true):False:=by
 obtain⟨dst,op,ty,pos,after,guard⟩:=o
 cases op<;>simp[isB]at hb<;>simp[ym]at hn
theorem nB {o:Oper}(hb:xI o=true)(hn:ym pol f o=true):False:=by
 obtain⟨dst,op,ty,pos,after,guard⟩:=o
 cases op with
 | call c =>
  obtain⟨callee,args,tys⟩:=c
  cases callee with
  | builtin b=>cases b<;>simp[xI]at hb<;>simp[ym]at hn
  | value x=>simp[xI]at hb
  | invoke r m=>simp[xI]at hb
 | _=>simp[xI]at hb
theorem WX {o:Oper}(hb:isB o=true)(ha:xI o=true):False:=by
 obtain⟨dst,op,ty,pos,after,guard⟩:=o
 cases op<;>simp[isB]at hb<;>simp[xI]at ha
theorem ln {o:Oper}(hb:isB o=true):okK pol f o=true:=by
 obtain⟨dst,op,ty,pos,after,guard⟩:=o
 cases op<;>simp[isB]at hb<;>simp[okK]
theorem ot {o:Oper}(hb:xI o=true):okK pol f o=true:=by
 obtain⟨dst,op,ty,pos,after,guard⟩:=o
 cases op with
 | call c =>
  obtain⟨callee,args,tys⟩:=c
  cases callee with
  | builtin b=>cases b<;>simp[xI]at hb<;>simp[okK]
  | value x=>simp[xI]at hb
  | invoke r m=>simp[xI]at hb
 | _=>simp[xI]at hb
theorem oq {o:Oper}(hb:isB o=true):wD o=false:=by
 obtain⟨dst,op,ty,pos,after,guard⟩:=o
 cases op<;>simp[isB]at hb<;>simp[wD]
theorem nC {o:Oper}(hb:xI o=true):wD o=false:=by
 obtain⟨dst,op,ty,pos,after,guard⟩:=o
 cases op with
 | call c =>
  obtain⟨callee,args,tys⟩:=c
  cases callee with
  | builtin b=>simp[wD]
  | value x=>simp[xI]at hb
  | invoke r m=>simp[xI]at hb
 | _=>simp[xI]at hb
theorem xN {o:Oper}(hd:wD o=false){e:Env}{h2:Heap}:yb N o e h=yb N o e h2:=by
 unfold yb qo;rw[hd];rfl
def nT (h:Heap)(k:Nat):Option Blk→Heap
 | some b=>h.set k b
 | none=>h
theorem kP {k:Nat}{b:Option Blk}:(nT h k b).length=h.length:=by cases b<;>simp[nT]
theorem WC {k r:Nat}{b:Option Blk}(hr:r≠k):(nT h k b)[r]? = h[r]? := by
 cases b with
 | none=>rfl
 | some b=>exact List.getElem?_set_ne fun e=>hr e.symm
theorem Wg (hown : pol.own f = true) {o : Oper} (hb : isB o = true) {k : Nat} {e : Env} {v : V} {h1 : Heap} (hev : wx P pol rec f (some k) ops o e h = some (v, h1)) :
 ∃ b:Option Blk,h1=nT h k b∧∀ h':Heap,wx P pol rec f (some k) ops o e h'=some (v,nT h' k b):=by
 unfold wx at hev ⊢
 split at hev
 · unfold we at hev ⊢;rw[if_pos hown]at hev;obtain⟨dst,op,ty,pos,after,guard⟩:=o
   cases op with
   | buildSlice t len parts =>
    simp only[yS,bN,isB,if_true,bare]at hev;simp only[hown,if_true,yS,bN,isB,bare]
    split at hev
    · rename_i r hr
      cases hev
      split at hr
      · split at hr
        · cases hr
        · rename_i el hel hc
          split at hr
          · rename_i css hf
            cases hr;exact⟨some _,rfl,fun h'=>by simp only[hc,if_false,nI,nH,nT]⟩
          · cases hr
      · cases hr
    · cases hev
   | _=>simp[isB]at hb
 · cases hev;exact⟨none,rfl,fun h'=>rfl⟩
 · cases hev
theorem oG {k:Nat}{b:Blk}(hk:k<h.length)(l:Heap):h.set k b++l=(h++l).set k b:=(List.set_append_left _ _ hk).symm
theorem VK {k:Nat}{b:Blk}(hk:k<h.length){ty tx:TypeId}{s x:V}(hs:k∉refs s)(hx:k∉refs x):yf P ty tx s x (h.set k b)=(yf P ty tx s x h).map fun q=>(q.1,q.2.set k b):=by
 unfold yf
 split
 · split
   · rename_i r off len cap r2 off2 len2 cap2;have e1:r≠k:=fun e=>hs (by simp[refs,e])
     have e2:r2≠k:=fun e=>hx (by simp[refs,e])
     rw[List.getElem?_set_ne (Ne.symm e1),List.getElem?_set_ne (Ne.symm e2)];generalize h[r]? = y1;generalize h[r2]? = y2;rcases y1 with _|y1
     · rfl
     cases y1<;>try rfl
     rcases y2 with _|y2
     · rfl
     cases y2<;>try rfl
     simp only
     split
     · simp only[Option.map_some,List.length_set];rw[List.set_comm _ _ (Ne.symm e1),oG (by simpa using hk)]
     · rfl
   · rfl
 · rfl
theorem VM {k:Nat}{b:Blk}(hk:k<h.length){ty tx:TypeId}{s x:V}(hs:k∉refs s)(hx:k∉refs x):yg P ty tx s x (h.set k b)=(yg P ty tx s x h).map fun q=>(q.1,q.2.set k b):=by
 unfold yg
 split
 · split
   · rename_i r off len cap r2 off2 len2 cap2;have e1:r≠k:=fun e=>hs (by simp[refs,e])
     have e2:r2≠k:=fun e=>hx (by simp[refs,e])
     rw[List.getElem?_set_ne (Ne.symm e1),List.getElem?_set_ne (Ne.symm e2)];generalize h[r]? = y1;generalize h[r2]? = y2;rcases y1 with _|y1
     · rfl
     cases y1<;>try rfl
     rcases y2 with _|y2
     · rfl
     cases y2<;>try rfl
     simp only
     split
     · simp only[Option.map_some,List.length_set];rw[List.set_comm _ _ (Ne.symm e1),oG (by simpa using hk),List.set_comm _ _ (Ne.symm e2)]
     · rfl
   · rfl
 · rfl
theorem bK {k:Nat}{b:Blk}(hk:k<h.length){ty tx:TypeId}{s x:V}(hs:k∉refs s)(hx:k∉refs x) :
 (match yf P ty tx s x (h.set k b) with|some q=>some q|none=>yg P ty tx s x (h.set k b))=Option.map (fun q:V×Heap=>(q.1,q.2.set k b)) (match yf P ty tx s x h with|some q=>some q|none=>yg P ty tx s x h):=by
 rw[VK hk hs hx,VM hk hs hx]
 cases yf P ty tx s x h<;>rfl
theorem VL {k:Nat}{b:Blk}(hk:k<h.length){ty tx:TypeId}{s x:V}(hs:k∉refs s)(hx:k∉refs x):yn P ty tx s x (h.set k b)=(yn P ty tx s x h).map fun q=>(q.1,q.2.set k b):=by
 cases s with
 | nil sz =>
  simp only[yn,List.length_set];rw[oG hk];exact bK (by simp;omega) (by simp only[refs,List.mem_singleton];omega) hx
 | _=>exact bK hk hs hx
theorem SV {k:Nat}{b:Blk}(hk:k<h.length){ty tx:TypeId}{s x:V}(hs:k∉refs s)(hx:k∉refs x):app P none ty tx s x (h.set k b)=(app P none ty tx s x h).map fun q=>(q.1,q.2.set k b):=by
 unfold app
 split
 · rfl
 · rw[ie (h:=h) (h2:=h.set k b) fun r hr=>List.getElem?_set_ne fun e:k=r=>hx (by rw[e,← kU];first|exact hr|(rw[kU];exact hr))]
   split
   · rfl
   · split
     · split
       · simp only[Option.map_some,nI,nH,List.length_set];rw[oG hk]
       · rfl
     · rename_i r off len cap;have e1:r≠k:=fun e=>hs (by simp[refs,e])
       rw[List.getElem?_set_ne (Ne.symm e1)];generalize h[r]? = y1;rcases y1 with _|y1
       · rfl
       cases y1<;>try rfl
       simp only
       split
       · simp only[Option.map_some,nI,nH,List.length_set];rw[List.set_comm _ _ (Ne.symm e1),oG (by simpa using hk)]
       · rfl
     · rfl
theorem Ri {o:Oper}(ha:xI o=true){k:Nat}{b:Option Blk}{e:Env}(hk:k<h.length)(hf:k∉yb none o e h) :
 wx P pol rec f none ops o e (nT h k b)=(wx P pol rec f none ops o e h).map fun q=>(q.1,nT q.2 k b):=by
 cases b with
 | none=>simp only[nT];cases wx P pol rec f none ops o e h<;>rfl
 | some b =>
  simp only[nT];unfold wx
  split
  · obtain⟨dst,op,ty,pos,after,guard⟩:=o
    cases op with
    | call c =>
     obtain⟨callee,args,tys⟩:=c
     cases callee with
     | builtin bt =>
      cases bt<;>simp[xI]at ha
      have hr:∀ s,s∈yl P e args.toList tys.toList→k∉refs s:=fun s hs hm=>hf (rU hs hm)
      have hO:yS P pol rec f none ⟨dst,.call ⟨.builtin .append,args,tys⟩,ty,pos,after,guard⟩ e (h.set k b)=(yS P pol rec f none ⟨dst,.call ⟨.builtin .append,args,tys⟩,ty,pos,after,guard⟩ e h).map fun q=>(q.1,q.2.set k b):=by
       simp only[yS];generalize yl P e args.toList tys.toList=xs at *;generalize tys.toList=ts at *;rcases xs with _|⟨s,_|⟨x,_|⟨y,xs⟩⟩⟩<;>rcases ts with _|⟨t,_|⟨u,_|⟨y',ts⟩⟩⟩<;>try rfl
       exact VL hk (hr _ (by simp)) (hr _ (by simp))
      have hE:zU P pol rec f none ⟨dst,.call ⟨.builtin .append,args,tys⟩,ty,pos,after,guard⟩ e (h.set k b)=(zU P pol rec f none ⟨dst,.call ⟨.builtin .append,args,tys⟩,ty,pos,after,guard⟩ e h).map fun q=>(q.1,q.2.set k b):=by
       simp only[zU];unfold blt;generalize yl P e args.toList tys.toList=xs at *;generalize tys.toList=ts at *;rcases xs with _|⟨s,_|⟨x,_|⟨y,xs⟩⟩⟩<;>rcases ts with _|⟨t,_|⟨u,_|⟨y',ts⟩⟩⟩<;>first|rfl|exact SV hk (hr _ (by simp)) (hr _ (by simp))
      unfold we;rw[hO,hE];simp only[bN,isB,Bool.false_eq_true,if_false,bare]
      split
      · cases yS P pol rec f none ⟨dst,.call ⟨.builtin .append,args,tys⟩,ty,pos,after,guard⟩ e h<;>rfl
      · rfl
     | value x=>simp[xI]at ha
     | invoke r m=>simp[xI]at ha
    | _=>simp[xI]at ha
  · rfl
  · rfl
theorem gK {k : Nat} {ty tx : TypeId} {s x v : V} {h1 : Heap} (hd : h[k]? = some .dead) (hev : (match yf P ty tx s x h with | some q => some q | none => yg P ty tx s x h) = some (v, h1)) : h1[k]? = some .dead := by
 have hk:=(List.getElem?_eq_some_iff.1 hd).1
 split at hev
 · rename_i q hq
   cases hev;unfold yf at hq
   split at hq
   · split at hq
     · split at hq
       · rename_i sz es sz2 es2 h1 h2
         split at hq
         · cases hq;rw[List.getElem?_append_left (by simpa using hk)];exact r9 hd h1 (by simp)
         · cases hq
       · cases hq
     · cases hq
   · cases hq
 · rename_i hq;unfold yg at hev
   split at hev
   · split at hev
     · split at hev
       · rename_i sz es sz2 es2 h1 h2
         split at hev
         · cases hev;rw[List.getElem?_set_ne (fun e=>by subst e;rw[hd]at h2;cases h2),List.getElem?_append_left (by simpa using hk)];exact r9 hd h1 (by simp)
         · cases hev
       · cases hev
     · cases hev
   · cases hev
theorem Tm {o : Oper} (hs : qj pol f o = true) {e : Env} {v : V} {h1 : Heap} (hev : wx P pol rec f N ops o e h = some (v, h1)) {k : Nat} (hd : h[k]? = some .dead) (hne : N ≠ some k) : h1[k]? = some .dead := by
 unfold wx at hev
 split at hev
 · unfold we at hev
   split at hev
   · split at hev
     · rename_i r hr
       cases hev
       by_cases hn:ym pol f o=true
       · rw[lW hn]at hr;cases hr
       · simp only[qj,hn,Bool.false_or,Bool.or_eq_true]at hs;obtain⟨dst,op,ty,pos,after,guard⟩:=o
         cases op with
         | buildSlice t len parts =>
          simp only[yS]at hr
          (repeat' split at hr)<;>first|(cases hr;done)|(cases hr;exact sC hd hne)
         | call c =>
          obtain⟨callee,args,tys⟩:=c
          cases callee with
          | builtin b =>
           cases b<;>simp[isB,xI,oL]at hs
           simp only[yS]at hr;generalize yl P e args.toList tys.toList=xs at *;generalize tys.toList=ts at *;rcases xs with _|⟨s,_|⟨x,_|⟨y,xs⟩⟩⟩<;>rcases ts with _|⟨t,_|⟨u,_|⟨y',ts⟩⟩⟩<;>try (cases hr;done)
           simp only[yn]at hr
           split at hr
           · exact gK (by rw[List.getElem?_append_left (List.getElem?_eq_some_iff.1 hd).1];exact hd) hr
           · exact gK hd hr
          | value x=>simp[isB,xI,oL]at hs
          | invoke r m=>simp[isB,xI,oL]at hs
         | store t x y=>simp[yS]at hr
         | _=>simp[isB,xI,oL]at hs
     · unfold bare at hev
       split at hev
       · exact nK hev hd hne
       · cases hev
   · exact nK hev hd hne
 · cases hev;exact hd
 · cases hev
theorem dp {o:Oper}(hn:okK pol f o=true)(hB:∀ k,N=some k→isB o=true∧pol.own f=true){e:Env}{v:V}{h1:Heap}(hev:wx P pol rec f N ops o e h=some (v,h1)) :
 ∀ r,(N.isSome=true∨r<h.length)→r∉yb N o e h→h1[r]? = h[r]? := fun r hr hf=>by
 cases N with
 | none =>
  rcases hr with hr|hr
  · cases hr
  · exact Tl hn hev r hr hf
 | some k =>
  obtain⟨b1,b2⟩:=hB k rfl;obtain⟨b,rfl,_⟩:=Wg b2 b1 hev;exact WC fun e=>hf (by simp[yb,e])
theorem wb {o:Oper}(hn:ym pol f o=true)(hB:∀ k,N=some k→isB o=true∧pol.own f=true):N=none:=by
 cases N with
 | none=>rfl
 | some k=>exact (WW (hB k rfl).1 hn).elim
theorem uH {o:Oper}(hc:sO o=true):ym pol f o=true:=by
 obtain⟨dst,op,ty,pos,after,guard⟩:=o
 cases op<;>simp[sO]at hc<;>simp[ym]
theorem ki {o:Oper}(hc:sO o=true):wD o=false:=by
 obtain⟨dst,op,ty,pos,after,guard⟩:=o
 cases op<;>simp[sO]at hc<;>simp[wD]
theorem Qp {h2:Heap}{ty:TypeId}{x:V}{lo hi mx:Option V}(ha:∀ r∈refs x,(h2[r]?.bind xt)=(h[r]?.bind xt)):cut P ty x lo hi mx h2=cut P ty x lo hi mx h:=by
 cases x with
 | sl r off len cap=>simp only[cut,ha r (by simp[refs])]
 | t y=>cases y<;>rfl
 | _=>rfl
theorem VP {o:Oper}(hc:sO o=true){e:Env}{h2:Heap}(ha:∀ r∈yb none o e h,(h2[r]?.bind xt)=(h[r]?.bind xt)){v:V}(hev:wx P pol rec f none ops o e h=some (v,h)):wx P pol rec f none ops o e h2=some (v,h2):=by
 rw[l7 (uH hc)]at hev ⊢;unfold ev1 at hev ⊢
 split at hev
 · obtain⟨dst,op,ty,pos,after,guard⟩:=o
   cases op with
   | slice t x lo hi mx =>
    simp only[zU]at hev ⊢;rw[Qp (h:=h) fun r hr=>ha r (tZ (P:=P) (ty:=t) (by cases lo<;>cases hi<;>cases mx<;>simp[Op.operands]) hr)]
    split at hev
    · cases hev;rfl
    · cases hev
   | _=>simp[sO]at hc
 · cases hev;rfl
 · cases hev
theorem R3 {dst:Option Nat} {b:Builtin} {args:Array Operand} {tys:Array TypeId} {ty:TypeId} {pos:String} {after:Array Edge} {guard:Option (Nat×Bool)} {e:Env} {r off len:Nat} {cap:Option Nat} {l:List V}
 (hx:yl P e args.toList tys.toList=.sl r off len cap::l):(yb none ⟨dst,.call ⟨.builtin b,args,tys⟩,ty,pos,after,guard⟩ e h).head? = some r:=by
 have key:∃ t ys,args.toList=.tmp t::ys∧e t=.sl r off len cap:=by
  cases hau:args.toList with
  | nil=>rw[hau]at hx;simp[yl]at hx
  | cons y ys =>
   rw[hau]at hx;have hy:∃ t,opv P e t y=.sl r off len cap:=by
    cases hts:tys.toList with
    | nil=>rw[hts]at hx;simp only[yl,List.cons.injEq]at hx;exact⟨_,hx.1⟩
    | cons t ts=>rw[hts]at hx;simp only[yl,List.cons.injEq]at hx;exact⟨_,hx.1⟩
   obtain⟨t,ht⟩:=hy;obtain⟨u,rfl,_⟩:=tV (P:=P) (e:=e) (ty:=t) (x:=y) (r:=r) (by rw[ht];simp[refs]);exact⟨u,ys,rfl,ht⟩
 obtain⟨t,ys,h1,h2⟩:=key;unfold yb qo;simp[wD,Op.operands,Call.operands,h1,za,h2,refs]
theorem YZ {k : Nat} {ty tx : TypeId} {s x v : V} {h1 : Heap} (hk : k < h.length) (hs : k ∉ refs s) (hev : (match yf P ty tx s x h with | some q => some q | none => yg P ty tx s x h) = some (v, h1)) : (h1[k]?.bind xt) = (h[k]?.bind xt) := by
 split at hev
 · rename_i q hq
   cases hev;unfold yf at hq
   split at hq
   · split at hq
     · rename_i r off len cap r2 off2 len2 cap2;have e1:r≠k:=fun e=>hs (by simp[refs,e])
       split at hq
       · split at hq
         · cases hq;rw[List.getElem?_append_left (by simpa using hk),List.getElem?_set_ne e1]
         · cases hq
       · cases hq
     · cases hq
   · cases hq
 · rename_i hq;unfold yg at hev
   split at hev
   · split at hev
     · rename_i r off len cap r2 off2 len2 cap2;have e1:r≠k:=fun e=>hs (by simp[refs,e])
       split at hev
       · rename_i sz es sz2 es2 g1 g2
         split at hev
         · rename_i hcond
           cases hev
           by_cases e2:r2=k
           · subst e2;rw[List.getElem?_set_self (by simp;omega),g2];simp[xt,hcond.2.1]
           · rw[List.getElem?_set_ne e2,List.getElem?_append_left (by simpa using hk),List.getElem?_set_ne e1]
         · cases hev
       · cases hev
     · cases hev
   · cases hev
theorem SZ {ty tx:TypeId}{s x v:V}{h1:Heap}(hev:(match yf P ty tx s x h with|some q=>some q|none=>yg P ty tx s x h)=some (v,h1)):∃ r off len cap,s=.sl r off len cap:=by
 split at hev
 · rename_i q hq;unfold yf at hq
   split at hq
   · split at hq
     · exact⟨_,_,_,_,rfl⟩
     · cases hq
   · cases hq
 · unfold yg at hev
   split at hev
   · split at hev
     · exact⟨_,_,_,_,rfl⟩
     · cases hev
   · cases hev
theorem QR {ty tx:TypeId}{s x v:V}{h1:Heap}(hev:app P N ty tx s x h=some (v,h1)):(∃ sz,s=.nil sz)∨∃ r off len cap,s=.sl r off len cap:=by
 unfold app at hev
 split at hev
 · cases hev
 · split at hev
   · cases hev
   · split at hev
     · exact .inl ⟨_,rfl⟩
     · exact .inr ⟨_,_,_,_,rfl⟩
     · cases hev
theorem UQ {k:Nat}{ty tx:TypeId}{s x v:V}{h1:Heap}(hk:k<h.length)(hs:k∉refs s)(hev:app P none ty tx s x h=some (v,h1)):(h1[k]?.bind xt)=(h[k]?.bind xt):=by
 have:=bJ (fp:=refs s) hev (fun r hr=>hr) k hk hs;rw[this]
theorem dq {o : Oper} (ha : xI o = true) {k : Nat} {e : Env} {v : V} {h1 : Heap} (hk : k < h.length) (hf : (yb none o e h).head? ≠ some k) (hev : wx P pol rec f none ops o e h = some (v, h1)) : (h1[k]?.bind xt) = (h[k]?.bind xt) := by
 unfold wx at hev
 split at hev
 · obtain⟨dst,op,ty,pos,after,guard⟩:=o
   cases op with
   | call c =>
    obtain⟨callee,args,tys⟩:=c
    cases callee with
    | builtin bt =>
     cases bt<;>simp[xI]at ha
     have hr:∀ s l,yl P e args.toList tys.toList=s::l→(∃ sz,s=.nil sz)∨(∃ r off len cap,s=.sl r off len cap)→k∉refs s:=fun s l hx hs hm=>by
      rcases hs with⟨sz,rfl⟩|⟨r,off,len,cap,rfl⟩
      · simp[refs]at hm
      · simp[refs]at hm;subst hm;exact hf (R3 hx)
     have hO:∀ q,yS P pol rec f none ⟨dst,.call ⟨.builtin .append,args,tys⟩,ty,pos,after,guard⟩ e h=some q→(q.2[k]?.bind xt)=(h[k]?.bind xt):=fun q hq=>by
      obtain⟨v',h'⟩:=q;simp only[yS]at hq;generalize yl P e args.toList tys.toList=xs at *;generalize tys.toList=ts at *;rcases xs with _|⟨s,_|⟨x,_|⟨y,xs⟩⟩⟩<;>rcases ts with _|⟨t,_|⟨u,_|⟨y',ts⟩⟩⟩<;>try (cases hq;done)
      cases s with
      | nil sz =>
       simp only[yn]at hq;have:=YZ (k:=k) (by simp;omega) (by simp only[refs,List.mem_singleton];omega) hq;rw[List.getElem?_append_left hk]at this;exact this
      | sl r off len cap=>exact YZ hk (hr _ _ rfl (.inr ⟨_,_,_,_,rfl⟩)) hq
      | _ =>
       obtain⟨_,_,_,_,hx⟩:=SZ hq
       cases hx
     have hE:∀ q,zU P pol rec f none ⟨dst,.call ⟨.builtin .append,args,tys⟩,ty,pos,after,guard⟩ e h=some q→(q.2[k]?.bind xt)=(h[k]?.bind xt):=fun q hq=>by
      obtain⟨v',h'⟩:=q;simp only[zU]at hq;unfold blt at hq;generalize yl P e args.toList tys.toList=xs at *;generalize tys.toList=ts at *;rcases xs with _|⟨s,_|⟨x,_|⟨y,xs⟩⟩⟩<;>rcases ts with _|⟨t,_|⟨u,_|⟨y',ts⟩⟩⟩<;>try (cases hq;done)
      cases s with
      | nil sz=>exact UQ hk (hr _ _ rfl (.inl ⟨_,rfl⟩)) hq
      | sl r off len cap=>exact UQ hk (hr _ _ rfl (.inr ⟨_,_,_,_,rfl⟩)) hq
      | _ =>
       rcases QR hq with⟨_,hx⟩|⟨_,_,_,_,hx⟩<;>cases hx
     unfold we at hev
     split at hev
     · split at hev
       · rename_i q hq;cases hev;exact hO _ hq
       · simp only[bN,isB,Bool.false_eq_true,if_false,bare]at hev;exact hE _ hev
     · exact hE _ hev
    | value x=>simp[xI]at ha
    | invoke r m=>simp[xI]at ha
   | _=>simp[xI]at ha
 · cases hev;rfl
 · cases hev
theorem nA {o:Oper}(hc:kh o=true):ym pol f o=true:=by
 obtain⟨dst,op,ty,pos,after,guard⟩:=o
 cases op<;>simp[kh]at hc<;>simp[ym]
theorem iP {o:Oper}(hc:kh o=true):wD o=false:=by
 obtain⟨dst,op,ty,pos,after,guard⟩:=o
 cases op<;>simp[kh]at hc<;>simp[wD]
theorem Rh {o:Oper}(hc:kh o=true){e:Env}{h2:Heap}{v:V}(hev:wx P pol rec f none ops o e h=some (v,h)):wx P pol rec f none ops o e h2=some (v,h2):=by
 rw[l7 (nA hc)]at hev ⊢;unfold ev1 at hev ⊢
 split at hev
 · obtain⟨dst,op,ty,pos,after,guard⟩:=o
   cases op with
   | move x=>simp only[zU]at hev ⊢;cases hev;rfl
   | assign x=>simp only[zU]at hev ⊢;cases hev;rfl
   | pick c a b =>
    simp only[zU]at hev ⊢
    split at hev
    · cases hev;rfl
    · cases hev
   | binOp op t x y u =>
    simp only[zU]at hev ⊢
    split at hev
    · cases hev;rfl
    · cases hev
   | unOp op t x =>
    simp only[zU]at hev ⊢
    split at hev
    · cases hev;rfl
    · cases hev
   | _=>simp[kh]at hc
 · cases hev;rfl
 · cases hev
theorem jT {o:Oper}(hn:oL o=true){e e':Env}(hs:wM ops o e e'):wx P pol rec f N ops o e h=wx P pol rec f N ops o e' h:=by
 unfold wx;rw[qS hs];have hq:we P pol rec f N o e h=we P pol rec f N o e' h:=by
  obtain⟨dst,op,ty,pos,after,guard⟩:=o
  cases op with
  | store t a x =>
   have h1:opv P e 0 a=opv P e' 0 a:=hs.opv 0 (by simp[Op.operands]);have h2:opv P e t x=opv P e' t x:=hs.opv t (by simp[Op.operands]);simp only[we,yS,zU,h1,h2]
  | _=>simp[oL]at hn
 rw[hq]
theorem Tk {a b:Oper} {Na Nb:Option Nat} (hap:a.apart ops b=true) (hBa:∀ k,Na=some k→isB a=true∧pol.own f=true) (hBb:∀ k,Nb=some k→isB b=true∧pol.own f=true) {e:Env} {va vb:V} {h1 h2:Heap}
 (hc:(ym pol f a=true∧ym pol f b=true)∨(ym pol f a=true∧okK pol f b=true∧∀ r∈yb Na a e h,(Nb.isSome=true∨r<h.length)∧r∉yb Nb b (put e a.dst va) h1) ∨
  (okK pol f a=true∧ym pol f b=true∧∀ r∈yb Nb b (put e a.dst va) h1,(Na.isSome=true∨r<h.length)∧r∉yb Na a e h) ∨
  (∃ k k',Na=some k∧Nb=some k'∧k≠k')∨(∃ k,Na=some k∧Nb=none∧xI b=true∧k∉yb Nb b (put e a.dst va) h1∧k<h.length) ∨
  (∃ k,Nb=some k∧Na=none∧xI a=true∧k∉yb Na a e h∧k<h.length) ∨
  (sO a=true∧xI b=true∧Nb=none∧∀ r∈yb Na a e h,r<h.length∧(yb Nb b (put e a.dst va) h1).head? ≠ some r) ∨
  (xI a=true∧sO b=true∧Na=none∧∀ r∈yb Nb b (put e a.dst va) h1,r<h.length∧(yb Na a e h).head? ≠ some r) ∨
  (kh a=true∧oL b=true)∨(oL a=true∧kh b=true))
 (h1e:wx P pol rec f Na ops a e h=some (va,h1)) (h2e:wx P pol rec f Nb ops b (put e a.dst va) h1=some (vb,h2)) :
 ∃ h3,wx P pol rec f Nb ops b e h=some (vb,h3)∧wx P pol rec f Na ops a (put e b.dst vb) h3=some (va,h2)∧yb Nb b e h=yb Nb b (put e a.dst va) h1∧yb Na a (put e b.dst vb) h3=yb Na a e h ∧
  (ym pol f b=true∨Nb.isSome=true∨h.length=h1.length)∧(ym pol f a=true∨Na.isSome=true∨h3.length=h.length):=by
 obtain⟨k1,k2,k3⟩:=Oper.apart_spec hap;have s1:wM ops b (put e a.dst va) e:=fun t ht=>lg fun hx=>k1 t hx ht
 have s2:wM ops a (put e b.dst vb) e:=fun t ht=>lg fun hx=>k3 t hx ht
 rw[xb s1]at hc ⊢;rcases hc with⟨hna,hnb⟩|⟨hna,hkb,hd⟩|⟨hka,hnb,hd⟩|⟨k,k',rfl,rfl,hkk⟩|⟨k,rfl,rfl,hpb,hkf,hkl⟩|⟨k,rfl,rfl,hpa,hkf,hkl⟩|⟨hca,hpb,rfl,hd⟩|⟨hpa,hcb,rfl,hd⟩|⟨hma,hsb⟩|⟨hsa,hmb⟩
 · obtain rfl:=wb hna hBa;obtain rfl:=wb hnb hBb;have e1:=wQ hna h1e;subst e1;have e2:=wQ hnb h2e;subst e2;rw[xa (.inl ⟨hnb,rfl⟩) s1]at h2e;exact⟨h2,h2e,by rw[xa (.inl ⟨hna,rfl⟩) s2];exact h1e,rfl,xb s2,.inl hnb,.inl hna⟩
 · obtain rfl:=wb hna hBa;have e1:=wQ hna h1e;subst e1;rw[xa (.inr hkb) s1]at h2e;have hk:=dp hkb hBb h2e;have ag:∀ r∈yb none a e h1,h2[r]? = h1[r]? := fun r hr=>hk r (hd r hr).1 (hd r hr).2
   exact⟨h2,h2e,by rw[xa (.inl ⟨hna,rfl⟩) s2];exact Zk hna ag h1e,rfl,(xb s2).trans (ov ag),.inr (.inr rfl),.inl hna⟩
 · obtain rfl:=wb hnb hBb;have e2:=wQ hnb h2e;subst e2;rw[xa (.inl ⟨hnb,rfl⟩) s1]at h2e;have hk:=dp hka hBa h1e;have ag:∀ r∈yb none b e h2,h[r]? = h2[r]? := fun r hr=>(hk r (hd r hr).1 (hd r hr).2).symm
   exact⟨h,Zk hnb ag h2e,by rw[xa (.inr hka) s2];exact h1e,ov ag,xb s2,.inl hnb,.inr (.inr rfl)⟩
 · obtain⟨a1,a2⟩:=hBa k rfl;obtain⟨b1,b2⟩:=hBb k' rfl;obtain⟨x,rfl,hx⟩:=Wg a2 a1 h1e;rw[xa (.inr (ln b1)) s1]at h2e;obtain⟨y,rfl,hy⟩:=Wg b2 b1 h2e;refine⟨nT h k' y,hy h,?_,xN (oq b1),(xb s2).trans (xN (oq a1)),.inr (.inl rfl),.inr (.inl rfl)⟩;rw[xa (.inr (ln a1)) s2,hx]
   cases x<;>cases y<;>simp only[nT]
   rw[List.set_comm _ _ (Ne.symm hkk)]
 · obtain⟨a1,a2⟩:=hBa k rfl;obtain⟨x,rfl,hx⟩:=Wg a2 a1 h1e;rw[xa (.inr (ot hpb)) s1,Ri hpb hkl (by rw[xN (nC hpb) (h2:=nT h k x)];exact hkf)]at h2e
   cases hq:wx P pol rec f none ops b e h with
   | none=>rw[hq]at h2e;cases h2e
   | some q =>
    rw[hq]at h2e
    cases h2e;refine⟨q.2,rfl,?_,xN (nC hpb),(xb s2).trans (xN (oq a1)),.inr (.inr kP.symm),.inr (.inl rfl)⟩;rw[xa (.inr (ln a1)) s2,hx]
 · obtain⟨b1,b2⟩:=hBb k rfl;rw[xa (.inr (ln b1)) s1]at h2e;obtain⟨y,rfl,hy⟩:=Wg b2 b1 h2e;refine⟨nT h k y,hy h,?_,xN (oq b1),(xb s2).trans (xN (nC hpa)),.inr (.inl rfl),.inr (.inr kP)⟩;rw[xa (.inr (ot hpa)) s2,Ri hpa hkl hkf,h1e];rfl
 · have hna:=uH (pol:=pol) (f:=f) hca;obtain rfl:=wb hna hBa;have e1:=wQ hna h1e;subst e1;rw[xa (.inr (ot hpb)) s1]at h2e;exact⟨h2,h2e,by rw[xa (.inl ⟨hna,rfl⟩) s2];exact VP hca (fun r hr=>dq hpb (hd r hr).1 (hd r hr).2 h2e) h1e,rfl,(xb s2).trans (xN (ki hca)),.inr (.inr rfl),.inl hna⟩
 · have hnb:=uH (pol:=pol) (f:=f) hcb;obtain rfl:=wb hnb hBb;have e2:=wQ hnb h2e;subst e2;rw[xa (.inl ⟨hnb,rfl⟩) s1]at h2e;exact⟨h,VP hcb (fun r hr=>(dq hpa (hd r hr).1 (hd r hr).2 h1e).symm) h2e,by rw[xa (.inr (ot hpa)) s2];exact h1e,xN (ki hcb),xb s2,.inl hnb,.inr (.inr rfl)⟩
 · have hna:=nA (pol:=pol) (f:=f) hma;obtain rfl:=wb hna hBa;have e1:=wQ hna h1e;subst e1;rw[jT hsb s1]at h2e;exact⟨h2,h2e,by rw[xa (.inl ⟨hna,rfl⟩) s2];exact Rh hma h1e,rfl,(xb s2).trans (xN (iP hma)),.inr (.inr rfl),.inl hna⟩
 · have hnb:=nA (pol:=pol) (f:=f) hmb;obtain rfl:=wb hnb hBb;have e2:=wQ hnb h2e;subst e2;rw[xa (.inl ⟨hnb,rfl⟩) s1]at h2e;exact⟨h,Rh hmb h2e,by rw[jT hsa s2];exact h1e,xN (iP hmb),xb s2,.inl hnb,.inr (.inr rfl)⟩
def evY (P:Program)(pol:Pol)(rec:Rec)(f:Nat)(ops:Array Oper)(Ns:Nat→Option Nat)(fp:Nat→List Nat):List Nat→Env→Heap→Option (Env×Heap)
 | [],e,h=>some (e,h)
 | i :: rest, e, h => match ops[i]? with
  | some o=>if yb (Ns i) o e h=(fp i).tail∧(ym pol f o=true∨(Ns i).isSome=true∨(fp i).head? = some h.length) then (match wx P pol rec f (Ns i) ops o e h with
   | some (v,h')=>evY P pol rec f ops Ns fp rest (put e o.dst v) h'
   | none=>none) else none
  | none=>none
def ChgY (pol:Pol)(f:Nat)(kp:Bool)(ops:Array Oper)(fp:Nat→List Nat)(i j:Nat):Prop :=
 ∀ oi oj, ops[i]? = some oi → ops[j]? = some oj → oi.apart ops oj = true ∧
  ((ym pol f oi=true∧ym pol f oj=true)∨(ym pol f oi=true∧okK pol f oj=true∧bW (fp i) (fp j)=true)∨(okK pol f oi=true∧ym pol f oj=true∧bW (fp j) (fp i)=true) ∨
   (kp=true∧i≠j∧UZ oi oj (fp i) (fp j)=true)∨UY oi oj (fp i) (fp j)=true)
theorem dI {rs ws fa fb:List Nat}{n:Nat}{M:Option Nat}(hs:bW rs ws=true)(ha:fa=rs.tail)(hb:fb=ws.tail)(hn:M.isSome=true∨ws.head? = some n):∀ r∈fa,(M.isSome=true∨r<n)∧r∉fb:=by
 subst ha hb
 cases rs with
 | nil=>simp[bW]at hs
 | cons x fs =>
  cases ws with
  | nil=>simp[bW]at hs
  | cons k ws =>
   simp only[bW,List.all_eq_true,Bool.and_eq_true,decide_eq_true_eq,Bool.not_eq_true',List.tail_cons]at hs ⊢;intro r hr;obtain⟨h1,h2⟩:=hs r hr;refine⟨?_,fun hm=>by simp[hm]at h2⟩;rcases hn with hn|hn
   · exact .inl hn
   · simp only[List.head?_cons,Option.some.injEq]at hn;subst hn;exact .inr h1
theorem dK {rb ra fb fa:List Nat}{n k:Nat}(hs:R6 rb ra=true)(hb:k::fb=rb.tail)(ha:fa=ra.tail)(hn:ra.head? = some n):k∉fa∧k<n:=by
 subst ha;simp only[R6,Bool.and_eq_true,decide_eq_true_eq,← hb,List.headD_cons]at hs;refine⟨jj hs.1 k (by simp),?_⟩
 cases ra with
 | nil=>simp at hn
 | cons x l=>simp at hn hs;omega
theorem dJ {rs ra fa fb:List Nat}{n:Nat}(hs:R5 rs ra=true)(ha:fa=rs.tail)(hb:fb=ra.tail)(hn:ra.head? = some n):∀ r∈fa,r<n∧fb.head? ≠ some r:=by
 subst ha hb;intro r hr;simp only[R5,List.all_eq_true,Bool.and_eq_true,decide_eq_true_eq,Bool.not_eq_true',beq_eq_false_iff_ne]at hs;obtain⟨h1,h2⟩:=hs r hr
 cases ra with
 | nil=>simp at hn
 | cons x l=>simp at hn h2;exact⟨by omega,h1⟩
theorem hI {k:Nat}{o:Oper}{e:Env}:∃ l,yb (some k) o e h=k::l:=⟨_,rfl⟩
theorem gj {kp : Bool} {Ns : Nat → Option Nat} (hNB : ∀ (i k : Nat), Ns i = some k → ∀ (o : Oper), ops[i]? = some o → isB o = true ∧ pol.own f = true) (hinj : ∀ i j r, Ns i = some r → Ns j = some r → i = j) (hKp : kp = true → ∀ (i : Nat) (o : Oper), ops[i]? = some o → isB o = true → ∃ k, Ns i = some k) {fp : Nat → List Nat} {i : Nat} (B : List Nat) : ∀ (A : List Nat), (∀ j ∈ A, ChgY pol f kp ops fp j i) → ∀ {h : Heap} {e : Env} {r : Env × Heap},
 evY P pol rec f ops Ns fp (A++i::B) e h=some r→evY P pol rec f ops Ns fp (i::(A++B)) e h=some r
 | [],_,h,e,r,hev=>hev
 | j :: A, hA, h, e, r, hev => by
  simp only[List.cons_append,evY]at hev
  split at hev
  · rename_i oj hoj
    split at hev
    · rename_i hfj
      split at hev
      · rename_i va h1 h1e;have h2:=gj hNB hinj hKp B A (fun k hk=>hA k (by simp[hk])) hev;simp only[evY]at h2
        split at h2
        · rename_i oi hoi
          split at h2
          · rename_i hfi
            split at h2
            · rename_i vb h2' h2e;obtain⟨c1,c2⟩:=hA j (by simp) oj oi hoj hoi;obtain⟨k1,k2,k3⟩:=Oper.apart_spec c1;have hBa:∀ k,Ns j=some k→isB oj=true∧pol.own f=true:=fun k hk=>hNB j k hk oj hoj
              have hBb:∀ k,Ns i=some k→isB oi=true∧pol.own f=true:=fun k hk=>hNB i k hk oi hoi
              have hApN:∀ {i:Nat} {o:Oper},ops[i]? = some o→xI o=true→Ns i=none:=fun {i} {o} ho ha=>by
               cases hx:Ns i with
               | none=>rfl
               | some k=>exact (WX (hNB i k hx o ho).1 ha).elim
              have c3 : (ym pol f oj = true ∧ ym pol f oi = true) ∨ (ym pol f oj = true ∧ okK pol f oi = true ∧ ∀ r ∈ yb (Ns j) oj e h, ((Ns i).isSome = true ∨ r < h.length) ∧ r ∉ yb (Ns i) oi (put e oj.dst va) h1) ∨
               (okK pol f oj=true∧ym pol f oi=true∧∀ r∈yb (Ns i) oi (put e oj.dst va) h1,((Ns j).isSome=true∨r<h.length)∧r∉yb (Ns j) oj e h) ∨
               (∃ k k',Ns j=some k∧Ns i=some k'∧k≠k')∨(∃ k,Ns j=some k∧Ns i=none∧xI oi=true∧k∉yb (Ns i) oi (put e oj.dst va) h1∧k<h.length) ∨
               (∃ k,Ns i=some k∧Ns j=none∧xI oj=true∧k∉yb (Ns j) oj e h∧k<h.length) ∨
               (sO oj=true∧xI oi=true∧Ns i=none∧∀ r∈yb (Ns j) oj e h,r<h.length∧(yb (Ns i) oi (put e oj.dst va) h1).head? ≠ some r) ∨
               (xI oj=true∧sO oi=true∧Ns j=none∧∀ r∈yb (Ns i) oi (put e oj.dst va) h1,r<h.length∧(yb (Ns j) oj e h).head? ≠ some r) ∨
               (kh oj=true∧oL oi=true)∨(oL oj=true∧kh oi=true):=by
               have headA:∀ {i:Nat} {o:Oper} {m:Nat},ops[i]? = some o→xI o=true→(ym pol f o=true∨(Ns i).isSome=true∨(fp i).head? = some m)→(fp i).head? = some m:=fun {i} {o} {m} ho ha hx=>by
                rcases hx with hx|hx|hx
                · exact (nB ha hx).elim
                · rw[hApN ho ha]at hx;cases hx
                · exact hx
               rcases c2 with c2|⟨c2,c4,c5⟩|⟨c2,c4,c5⟩|⟨c2,c4,c5⟩|c2
               rotate_right
               · simp only[UY,Bool.or_eq_true,Bool.and_eq_true]at c2;rcases c2 with⟨⟨c6,c7⟩,c8⟩|⟨⟨c6,c7⟩,c8⟩|⟨c6,c7⟩|⟨c6,c7⟩
                 rotate_left 2
                 · exact .inr (.inr (.inr (.inr (.inr (.inr (.inr (.inr (.inl ⟨c6,c7⟩))))))))
                 · exact .inr (.inr (.inr (.inr (.inr (.inr (.inr (.inr (.inr ⟨c6,c7⟩))))))))
                 · have e0:=wb (uH c6) hBa;have e1:h1=h:=wQ (uH c6) (by rw[e0]at h1e;exact h1e);subst e1;exact .inr (.inr (.inr (.inr (.inr (.inr (.inl ⟨c6,c7,hApN hoi c7,dJ c8 hfj.1 hfi.1 (headA hoi c7 hfi.2)⟩))))))
                 · exact .inr (.inr (.inr (.inr (.inr (.inr (.inr (.inl ⟨c6,c7,hApN hoj c6,dJ c8 hfi.1 hfj.1 (headA hoj c6 hfj.2)⟩)))))))
               · exact .inl c2
               · have e0:=wb c2 hBa;have e1:h1=h:=wQ c2 (by rw[e0]at h1e;exact h1e);subst e1;rcases hfi.2 with hx|hx
                 · exact (cj hx c4).elim
                 · exact .inr (.inl ⟨c2,c4,dI c5 hfj.1 hfi.1 hx⟩)
               · rcases hfj.2 with hx|hx
                 · exact (cj hx c2).elim
                 · exact .inr (.inr (.inl ⟨c2,c4,dI c5 hfi.1 hfj.1 hx⟩))
               · simp only[UZ,Bool.or_eq_true,Bool.and_eq_true]at c5;rcases c5 with⟨⟨c6,c7⟩,c8⟩|⟨⟨c6,c7⟩,c8⟩
                 · obtain⟨k,hk⟩:=hKp c2 j oj hoj c6;rcases c7 with c7|c7
                   · obtain⟨k',hk'⟩:=hKp c2 i oi hoi c7;exact .inr (.inr (.inr (.inl ⟨k,k',hk,hk',fun e=>c4 (hinj j i k hk (by rw[e];exact hk'))⟩)))
                   · have hNi:=hApN hoi c7;have hl:h1.length=h.length:=by
                      rw[hk]at h1e;obtain⟨x,rfl,_⟩:=Wg (hBa k hk).2 c6 h1e;exact kP
                     have hh:(fp i).head? = some h.length:=by
                      rcases hfi.2 with hx|hx|hx
                      · exact (nB c7 hx).elim
                      · rw[hNi]at hx;cases hx
                      · rw[hx,hl]
                     have hf:=hfj.1;rw[hk]at hf;obtain⟨l,hl2⟩:=hI (h:=h) (k:=k) (o:=oj) (e:=e);rw[hl2]at hf;obtain⟨g1,g2⟩:=dK c8 hf hfi.1 hh;exact .inr (.inr (.inr (.inr (.inl ⟨k,hk,hNi,c7,g1,g2⟩))))
                 · obtain⟨k,hk⟩:=hKp c2 i oi hoi c7;have hNj:=hApN hoj c6;have hh:(fp j).head? = some h.length:=by
                    rcases hfj.2 with hx|hx|hx
                    · exact (nB c6 hx).elim
                    · rw[hNj]at hx;cases hx
                    · exact hx
                   have hf:=hfi.1;rw[hk]at hf;obtain⟨l,hl2⟩:=hI (h:=h1) (k:=k) (o:=oi) (e:=put e oj.dst va);rw[hl2]at hf;obtain⟨g1,g2⟩:=dK c8 hf hfj.1 hh;exact .inr (.inr (.inr (.inr (.inr (.inl ⟨k,hk,hNj,c6,g1,g2⟩)))))
              obtain⟨h3,g1,g2,g3,g4,g5,g6⟩:=Tk c1 hBa hBb c3 h1e h2e;have f1:yb (Ns i) oi e h=(fp i).tail∧(ym pol f oi=true∨(Ns i).isSome=true∨(fp i).head? = some h.length):=⟨by rw[g3];exact hfi.1,by
               rcases g5 with g5|g5|g5
               · exact .inl g5
               · exact .inr (.inl g5)
               · rw[g5];exact hfi.2⟩
              have f2:yb (Ns j) oj (put e oi.dst vb) h3=(fp j).tail∧(ym pol f oj=true∨(Ns j).isSome=true∨(fp j).head? = some h3.length):=⟨by rw[g4];exact hfj.1,by
               rcases g6 with g6|g6|g6
               · exact .inl g6
               · exact .inr (.inl g6)
               · rw[g6];exact hfj.2⟩
              simp only[evY,hoi,g1,List.cons_append,hoj,g2];rw[if_pos f1,if_pos f2,← dP e va vb k2];exact h2
            · cases h2
          · cases h2
        · cases h2
      · cases hev
    · cases hev
  · cases hev
theorem R0 {W0 : World} (hrec : wi P W0 rec) {n : Nat} (hdst : oZ n ops = true) (hpairs : lh ops = true) {kp : Bool} {Ns : Nat → Option Nat} (hNB : ∀ (i k : Nat), Ns i = some k → ∀ (o : Oper), ops[i]? = some o → isB o = true ∧ pol.own f = true) (hinj : ∀ i j r, Ns i = some r → Ns j = some r → i = j) (hKp : kp = true → ∀ (i : Nat) (o : Oper), ops[i]? = some o → isB o = true → ∃ k, Ns i = some k)
 (hsim:(∀ i,Ns i=none)∨∀ (i:Nat) (o:Oper),ops[i]? = some o→qj pol f o=true) {fp:Nat→List Nat}
 (hchg:∀ i j oj,i<j→ops[j]? = some oj→¬ Path ops i j→ChgY pol f kp ops fp i j) {Q:Exit→Act→World→Prop} :
 ∀ (fuel:Nat) (R:List Nat) (listed:Array Bool) {w:World} {F:Nat→Prop} {ρ:y9} {h:Heap} {e e':Env} {h':Heap} {a:Act},R.length=fuel→R.Pairwise (· < ·)→listed.size=ops.size→(∀ i,i∈R↔i<ops.size∧listed.getD i true=false)→(∀ i∈R,∀ r,Ns i=some r→h[r]? = some .dead∧ρ r=none) →
  (∀ k ok,listed.getD k false=true→ops[k]? = some ok→∀ ed∈ok.after,Region.binds .any ed=true→listed.getD ed.on false=true) →
  evY P pol rec f ops Ns fp R e h=some (e',h')→vy W0 w F→St w F ρ Ow h→OkC Ow w→RE w F ρ a e→a.tmps.size=n→a.defers=[]→pA Ow w F ρ n e' h' (Q .normal)→wpAny P .any ops Q fuel listed a w:=by
 intro fuel
 induction fuel with
 | zero =>
  intro R listed w F ρ h e e' h' a hl hs hsz hR hdead hcl hev hB hS hO he hn hd hK;have:R=[]:=List.eq_nil_of_length_eq_zero hl;subst this;simp only[evY]at hev
  cases hev;refine⟨?_,hK a w F ρ he hS (Nxt.refl _ _ _ _) hn hd⟩;apply List.eq_nil_iff_forall_not_mem.2;intro j hj;obtain⟨hju,oj,hoj,_⟩:=mem_ready.1 hj;have:=(hR j).2 ⟨(Array.getElem?_eq_some_iff.1 hoj).1,hju⟩
  cases this
 | succ fuel ih =>
  intro R listed w F ρ h e e' h' a hl hs hsz hR hdead hcl hev hB hS hO he hn hd hK;refine⟨fun hnil=>?_,fun i hi=>?_⟩
  · exfalso
    cases R with
    | nil=>simp at hl
    | cons j R =>
     obtain⟨hj1,hj2⟩:=(hR j).1 (by simp);obtain⟨oj,hoj⟩:∃ o,ops[j]? = some o:=⟨_,Array.getElem?_eq_getElem hj1⟩;have:j∈Region.ready .any ops listed:=mem_ready.2 ⟨hj2,oj,hoj,fun ed hed hb=>by
      have hlt:=(uG hpairs hoj).1 ed hed hb
      cases hx:listed.getD ed.on false with
      | true=>rfl
      | false =>
       have hx':listed.getD ed.on true=false:=by
        simp only[Array.getD_eq_getD_getElem?]at hx ⊢;have hin:ed.on<listed.size:=by omega
        simp[hin]at hx ⊢;exact hx
       have:=(hR ed.on).2 ⟨by omega,hx'⟩;rcases List.mem_cons.1 this with h1|h1
       · omega
       · have:=(List.pairwise_cons.1 hs).1 _ h1;omega⟩
     rw[hnil]at this
     cases this
  · obtain⟨hiu,oi,hoi,hall'⟩:=mem_ready.1 hi;have hmem:=(hR i).2 ⟨(Array.getElem?_eq_some_iff.1 hoi).1,hiu⟩;obtain⟨A,B,rfl⟩:=List.append_of_mem hmem;have hpw:=List.pairwise_append.1 hs;have hnA:i∉A:=fun h1=>by have:=hpw.2.2 i h1 i (by simp);omega
    have hnB:i∉B:=fun h1=>by have:=(List.pairwise_cons.1 hpw.2.1).1 i h1;omega
    have hfront:=gj (P:=P) (rec:=rec) (fp:=fp) hNB hinj hKp B A (fun j hj=>by
     obtain⟨hj1,hj2⟩:=(hR j).1 (by simp[hj]);refine hchg j i oi (hpw.2.2 j hj i (by simp)) hoi fun hpt=>?_
     have h1:=mj hcl hpt fun ox hox ed hed hb=>by
      rw[hoi]at hox;cases hox;exact hall' ed hed hb
     simp only[Array.getD_eq_getD_getElem?]at h1 hj2;have hin:j<listed.size:=by omega
     simp[hin]at h1 hj2;rw[hj2]at h1;cases h1) hev
    simp only[evY,hoi]at hfront
    split at hfront
    rotate_left
    · cases hfront
    split at hfront
    · rename_i v1 h1 h1ev;have hsub:∀ j,j∈A++B→j∈A++i::B:=fun j hj=>by simp at hj ⊢;rcases hj with h|h;exact .inl h;exact .inr (.inr h)
      have hother:∀ j,j∈A++B→∀ k,Ns i=some k→Ns j=some k→False:=fun j hj k h1 h2=>by
       have:=hinj i j k h1 h2;subst this;rcases List.mem_append.1 hj with hx|hx
       · exact hnA hx
       · exact hnB hx
      have hO':OkO ⟨Ow.b,fun r=>∃ j∈A++B,Ns j=some r,Ns i⟩ w ρ h:=by
       refine⟨hO.blk,?_,fun k hk=>hdead i (by simp) k hk⟩
       rintro⟨j,hj,hjr⟩
       cases hNi:Ns i with
       | none =>
        simp only[hNi,nI]at hjr;have hdj:=(hdead j (hsub j hj) _ hjr).1;rw[List.getElem?_eq_none (Nat.le_refl _)]at hdj;cases hdj
       | some k =>
        simp only[hNi,nI]at hjr;exact hother j hj k hNi hjr
      have hsim':((∀ r,¬ ∃ j∈A++B,Ns j=some r)∧Ns i=none)∨qj pol f oi=true:=by
       rcases hsim with hx|hx
       · exact .inl ⟨fun r ⟨j,_,hj⟩=>(by rw[hx]at hj;cases hj),hx i⟩
       · exact .inr (hx i oi hoi)
      refine ZJ (Ow:=⟨Ow.b,fun r=>∃ j∈A++B,Ns j=some r,Ns i⟩) hB hrec hoi (by rw[gm];simp only;rw[h1ev]) (U7 hS) hO' (fun r ⟨j,hj,hjr⟩=>(List.getElem?_eq_some_iff.1 (hdead j (hsub j hj) r hjr).1).1) hsim' he hn hd hdst fun a' w' F' ρ' k1 k2 k3 k4 k5=>?_
      have k3':=ZT hO k3;have hdead':∀ j∈A++B,∀ r,Ns j=some r→h1[r]? = some .dead∧ρ' r=none:=fun j hj r hjr=>by
       obtain⟨d1,d2⟩:=hdead j (hsub j hj) r hjr;refine⟨?_,(k3.res r ⟨j,hj,hjr⟩).trans d2⟩;rcases hsim with hx|hx
       · rw[hx]at hjr;cases hjr
       · exact Tm (hx i oi hoi) h1ev d1 fun hx'=>hother j hj r hx' hjr
      have hcl':∀ k ok,(listed.setIfInBounds i true).getD k false=true→ops[k]? = some ok→∀ ed∈ok.after,Region.binds .any ed=true→(listed.setIfInBounds i true).getD ed.on false=true:=fun k ok hk hok ed hed hb=>by
       have key:listed.getD ed.on false=true:=by
        by_cases hki:k=i
        · subst hki;rw[hoi]at hok;cases hok;exact hall' ed hed hb
        · rw[getD_set_ne false (Ne.symm hki)]at hk;exact hcl k ok hk hok ed hed hb
       by_cases hei:ed.on=i
       · rw[hei]at key ⊢;simp only[Array.getD_eq_getD_getElem?]at key ⊢
         by_cases hin:i<listed.size
         · simp[hin]
         · simp[hin]at key
       · rw[getD_set_ne false (Ne.symm hei)];exact key
      refine ih (A++B) (listed.setIfInBounds i true) (by simp at hl ⊢;omega) ?_ (by simpa using hsz) (fun j=>?_) hdead' hcl' hfront (hB.next k3') (VW k2) (hO.mono k3'.size) k1 k4 k5 (hK.step k3')
      · refine List.pairwise_append.2 ⟨hpw.1,(List.pairwise_cons.1 hpw.2.1).2,fun x hx y hy=>hpw.2.2 x hx y (by simp[hy])⟩
      · by_cases hji:j=i
        · subst hji;constructor
          · intro hj;exfalso;rcases List.mem_append.1 hj with h1|h1
            · exact hnA h1
            · exact hnB h1
          · rintro⟨hj1,hj2⟩
            exfalso;have hin:j<listed.size:=by omega
            simp[Array.getD_eq_getD_getElem?,hin]at hj2
        · rw[getD_set_ne true (Ne.symm hji),← hR j];simp[hji]
    · cases hfront
theorem YF {Ns:Nat→Option Nat}{fp:Nat→List Nat}:∀ (l:List Nat) (Nl:List (Option Nat)) (os:List Oper) {rs:List (List Nat)} {e e':Env} {h h':Heap},l.map (ops[·]?)=os.map some→(∀ (n i:Nat),l[n]? = some i→Ns i=(Nl[n]?).join)→evR P pol rec f ops Nl os e h=some (rs,e',h')→l.map fp=rs→evY P pol rec f ops Ns fp l e h=some (e',h')
 | [],Nl,[],rs,e,e',h,h',_,_,hev,_=>by simp only[evR]at hev;cases hev;rfl
 | i :: l, Nl, o :: os, rs, e, e', h, h', ho, hN, hev, hf => by
  simp only[List.map_cons,List.cons.injEq]at ho;simp only[evR]at hev;have hNi:hdN Nl=Ns i:=by
   rw[hN 0 i rfl]
   cases Nl<;>rfl
  rw[hNi,gm]at hev
  cases h1:wx P pol rec f (Ns i) ops o e h with
  | none=>simp[h1]at hev
  | some x =>
   obtain⟨v,hx⟩:=x;simp only[h1]at hev
   split at hev
   · rename_i rs' e'' h'' h2
     cases hev;simp only[List.map_cons,List.cons.injEq]at hf;simp only[evY,ho.1,hf.1,List.tail_cons,List.head?_cons,or_true,and_self,if_true,h1];exact YF l Nl.tail os ho.2 (fun n j hj=>by rw[hN (n+1) j (by simpa using hj)];cases Nl<;>simp) h2 hf.2
   · cases hev
 | [],_,_::_,rs,e,e',h,h',ho,_,hev,hf=>by simp at ho
 | _::_,_,[],rs,e,e',h,h',ho,_,hev,hf=>by simp at ho
theorem YE:∀ (Nl:List (Option Nat)) (os:List Oper) {rs:List (List Nat)} {e e':Env} {h h':Heap},evR P pol rec f ops Nl os e h=some (rs,e',h')→rs.length=os.length
 | Nl,[],rs,e,e',h,h',hev=>by simp only[evR]at hev;cases hev;rfl
 | Nl,o::os,rs,e,e',h,h',hev=>by
  simp only[evR]at hev
  split at hev
  · split at hev
    · rename_i rs' e'' h'' h2
      cases hev;simp[YE _ os h2]
    · cases hev
  · cases hev
theorem tY:∀ (os:List Oper) (b i r:Nat),(kids b os)[i]? = some (some r)→b≤r∧r<b+oR os∧∃ o,os[i]? = some o∧isB o=true
 | [],b,i,r,h=>by
  cases i with
  | zero=>simp[kids]at h
  | succ i=>simp[kids]at h
 | o :: os, b, i, r, h => by
  simp only[kids]at h;simp only[oR]
  split at h
  · rename_i hn;simp only[hn,if_true]
    cases i with
    | zero=>simp at h;subst h;exact⟨Nat.le_refl _,by omega,o,rfl,hn⟩
    | succ i =>
     obtain⟨h1,h2,h3⟩:=tY os (b+1) i r (by simpa using h);exact⟨by omega,by omega,by simpa using h3⟩
  · rename_i hn;simp only[hn]
    cases i with
    | zero=>simp at h
    | succ i =>
     obtain⟨h1,h2,h3⟩:=tY os b i r (by simpa using h);exact⟨h1,by simpa using h2,by simpa using h3⟩
theorem jc:∀ (os:List Oper) (b i j r:Nat),(kids b os)[i]? = some (some r)→(kids b os)[j]? = some (some r)→i=j
 | [],b,i,j,r,h,_=>by cases i<;>simp[kids]at h
 | o :: os, b, i, j, r, h1, h2 => by
  simp only[kids]at h1 h2
  split at h1
  · rename_i hn;simp only[hn,if_true]at h2
    cases i with
    | zero => cases j with
     | zero=>rfl
     | succ j =>
      have:=tY os (b+1) j r (by simpa using h2);simp at h1;omega
    | succ i => cases j with
     | zero =>
      have:=tY os (b+1) i r (by simpa using h1);simp at h2;omega
     | succ j=>rw[jc os (b+1) i j r (by simpa using h1) (by simpa using h2)]
  · rename_i hn;simp only[hn]at h2
    cases i with
    | zero=>simp at h1
    | succ i=>cases j with
     | zero=>simp at h2
     | succ j=>rw[jc os b i j r (by simpa using h1) (by simpa using h2)]
theorem jb:∀ (os:List Oper) (b i:Nat) (o:Oper),os[i]? = some o→isB o=true→∃ r,(kids b os)[i]? = some (some r)
 | [],b,i,o,h,_=>by simp at h
 | o' :: os, b, i, o, h, hn => by
  simp only[kids]
  cases i with
  | zero=>simp at h;subst h;simp only[hn,if_true];exact⟨b,rfl⟩
  | succ i =>
   split
   · simpa using jb os (b+1) i o (by simpa using h) hn
   · simpa using jb os b i o (by simpa using h) hn
theorem Vi {W0:World} (hB:vy W0 w F) (hrec:wi P W0 rec) {n:Nat} (hdst:oZ n ops=true) (hok:ma P ops=true) {id:Nat} {kp:Bool} {Q:Exit→Act→World→Prop} {e e':Env} {h':Heap} {a:Act}
 (hev:evZ P pol rec f kp ops e h=some (e',h')) (hS:St w F ρ Ow h)
 (hO:OkC Ow w) (he:RE w F ρ a e) (hn:a.tmps.size=n) (hd:a.defers=[]) (hK:pA Ow w F ρ n e' h' (Q .normal)):(Code.region id ops true).wp P Q a w:=by
 simp only[ma,Bool.and_eq_true]at hok;obtain⟨hm,hpairs⟩:=hok;obtain⟨hS1,hN⟩:=kX hS;have hO1:OkC Ow w.drew:=hO.mono (Nat.le_refl _);have hops:(List.range ops.size).map (ops[·]?)=ops.toList.map some:=nr ops;have hlast:∀ i,i∈List.range ops.size↔i<ops.size∧(Array.replicate ops.size false).getD i true=false:=fun i=>by
  simp only[List.mem_range];constructor
  · intro hi;exact⟨hi,by simp[Array.getD_eq_getD_getElem?,hi]⟩
  · exact fun hi=>hi.1
 unfold evZ at hev
 split at hev
 · rename_i rs e1 h1 hR
   split at hev
   · rename_i hz
     cases hev;have hl:=YE _ _ hR;have hSp:St w.drew F ρ Ow (if kp then h++List.replicate (oR ops.toList) .dead else h):=by
      cases kp with
      | true=>exact U6 hS1 _
      | false=>exact hS1
     have hE:=YF (Ns:=fun i=>((if kp then kids h.length ops.toList else [])[i]?).join) (fp:=fun i=>rs.getD i []) (List.range ops.size) _ _ hops (fun n i hni=>by
      rw[List.getElem?_range (by simpa using (List.getElem?_eq_some_iff.1 hni).1)]at hni
      cases hni;rfl) hR (by
      rw[show ops.size=rs.length by simpa using hl.symm];exact range_map_get rs [])
     simp only[zOK,Bool.and_eq_true,Bool.or_eq_true,Bool.not_eq_true']at hz;obtain⟨hz0,hz⟩:=hz;have hjoin:∀ {i r:Nat},((if kp=true then kids h.length ops.toList else [])[i]?).join=some r→kp=true∧(kids h.length ops.toList)[i]? = some (some r):=fun {i} {r} hr=>by
      cases kp with
      | false=>simp at hr
      | true =>
       simp only[if_true]at hr;refine⟨rfl,?_⟩
       cases hx:(kids h.length ops.toList)[i]? with
       | none=>rw[hx]at hr;cases hr
       | some y=>rw[hx]at hr;simp at hr;rw[hr]
     have hkp:kp=true→pol.own f=true∧∀ (i:Nat) (o:Oper),ops[i]? = some o→qj pol f o=true:=fun hk=>by
      rcases hz0 with h0|h0
      · rw[hk]at h0;cases h0
      · exact⟨h0.1,fun i o ho=>List.all_eq_true.1 h0.2 o (by rw[Array.mem_toList_iff];exact Array.mem_of_getElem? ho)⟩
     refine wp_region_any hm (R0 (w:=w.drew) hrec hdst hpairs (kp:=kp) (fun i k hk o ho=>?_) (fun i j r hi hj=>?_) (fun hk i o ho hb=>?_) ?_ (fp:=fun i=>rs.getD i []) (fun i j oj hij hoj hnp oi oj' hoi hoj'=>?_) ops.size (List.range ops.size) (Array.replicate ops.size false) (by simp) List.pairwise_lt_range (by simp) hlast (fun i hi r hr=>?_) (fun k ok hk=>by simp only[Array.getD_eq_getD_getElem?,Array.getElem?_replicate]at hk;split at hk<;>simp at hk) hE (hB.next hN) hSp hO1 (hN.re he) hn hd (hK.step hN))
     · obtain⟨q1,q2⟩:=hjoin hk;obtain⟨_,_,o',ho',hb⟩:=tY _ _ _ _ q2;have:ops[i]? = some o':=by simpa using ho'
       rw[ho]at this;cases this;exact⟨hb,(hkp q1).1⟩
     · exact jc _ _ _ _ _ (hjoin hi).2 (hjoin hj).2
     · obtain⟨r,hr⟩:=jb ops.toList h.length i o (by simpa using ho) hb;exact⟨r,by simp only[hk,if_true,hr];rfl⟩
     · cases hk:kp with
       | false=>exact .inl fun i=>by simp
       | true=>exact .inr (hkp hk).2
     · rw[hoj]at hoj';cases hoj';have hno:∀ e∈oj.after,Region.binds .any e=true→e.on≠i:=fun e he hb heq=>hnp (.dir hoj he hb heq)
       have hlt:j<ops.size:=(Array.getElem?_eq_some_iff.1 hoj).1;have h2:=List.all_eq_true.1 hz j (List.mem_range.2 hlt);simp only[hoj,List.all_eq_true,List.mem_range]at h2;have h3:=h2 i hij;simp only[hoi,Rl,Bool.or_eq_true,Bool.and_eq_true]at h3;refine⟨(uG hpairs hoj).2 i oi hij hoi hno,?_⟩;rcases h3 with h3|h3|h3|h3|h3|h3
       · exact absurd (fH 8 j h3) hnp
       · exact .inl h3
       · exact .inr (.inl ⟨h3.1.1,h3.1.2,h3.2⟩)
       · exact .inr (.inr (.inl ⟨h3.1.1,h3.1.2,h3.2⟩))
       · exact .inr (.inr (.inr (.inl ⟨h3.1,by omega,h3.2⟩)))
       · exact .inr (.inr (.inr (.inr h3)))
     · obtain⟨q1,q2⟩:=hjoin hr;obtain⟨r1,r2,_⟩:=tY _ _ _ _ q2;refine⟨?_,hS1.out r r1⟩;rw[q1];simp only[if_true];rw[List.getElem?_append_right r1,List.getElem?_replicate,if_pos (by omega)]
   · cases hev
 · cases hev
end Go.Proofs.YtefkoljdebekdaaGreatDoor.E
/- The evaluator's code and calls are the machine's: whatever the evaluator answers, the machine returns. Conditions: those of each lemma. -/
namespace Go.Proofs.YtefkoljdebekdaaGreatDoor.E
variable {P:Program} {w:World} {F:Nat→Prop} {ρ:y9} {Ow:Own} {h:Heap}
def exi:Exi→Exit
 | .normal=>.normal
 | .exit id=>.exit id
 | .ret=>.ret
def xn (d:Array Oper→Bool)(n:Nat):Code→Bool
 | .region _ ops draw=>oZ n ops&&(!draw||d ops)
 | .seq a b=>xn d n a&&xn d n b
 | .cond _ a b=>xn d n a&&xn d n b
 | .block _ c=>xn d n c
 | .loop c=>xn d n c
 | _=>true
theorem tN {d:Array Oper→Bool}{n:Nat}:∀ (ds:List Bool) {c c':Code},xn d n c=true→yZ c ds=some c'→xn d n c'=true
 | [],c,c',hc,h=>by simp only[yZ]at h;cases h;exact hc
 | x :: ds, c, c', hc, h => by
  cases c with
  | seq a b =>
   simp only[yZ]at h;simp only[xn,Bool.and_eq_true]at hc;refine tN ds (c:=if x then b else a) ?_ h
   split
   · exact hc.2
   · exact hc.1
  | cond o a b =>
   simp only[yZ]at h;simp only[xn,Bool.and_eq_true]at hc;refine tN ds (c:=if x then b else a) ?_ h
   split
   · exact hc.2
   · exact hc.1
  | block id b=>simp only[yZ]at h;exact tN ds (c:=b) hc h
  | loop b=>simp only[yZ]at h;exact tN ds (c:=b) hc h
  | _=>simp[yZ]at h
def eE (P : Program) (W0 : World) (pol : Pol) (rec : Rec) : Prop :=
 ∀ f p m vals h x outs h', rec (.loop f p m vals h) = some (.loop x outs h') →
  ∃ fn c b, P.funcs[f]? = some fn ∧ fn.body = some c ∧ yZ c (turns p) = some (.loop b) ∧
   (1≤p→xn (oQ P pol f) fn.ntmps c=true→∀ (Ow:Own) (w:World) (F:Nat→Prop) (ρ:y9) (a:Act) (Q:Exit→Act→World→Prop),vy W0 w F→St w F ρ Ow h→OkC Ow w→RVs w F ρ (tU a (pol.live f p)) vals→a.tmps.size=fn.ntmps→a.defers=[] →
    (∀ a' w' F' ρ',RE w' F' ρ' a' (zb (pol.outs f p) outs)→St w' F' ρ' Ow h'→Nxt Ow w F zO w' F' zO→(∀ r l,r<m→ρ r=some l→ρ' r=some l)→a'.tmps.size=fn.ntmps→a'.defers=[]→Q (exi x) a' w') →
    (Code.loop b).wp P Q a w∧mg P b Q a w)
theorem Nxt.forget {w1:World}{F1:Nat→Prop}{ρ1 ρa:y9}(h:Nxt Ow w F ρ w1 F1 ρ1)(he:Ext ρa ρa):Nxt Ow w F ρa w1 F1 ρa :=
 ⟨h.os,h.tape,h.output,h.size,h.keep,h.agree,h.grow,h.new,he,fun _ _=>rfl⟩
def eF (Ow:Own)(w:World)(F:Nat→Prop)(ρ:y9)(m:Nat)(n:Nat)(x:Exi)(e':Env)(h':Heap)(Q:Exit→Act→World→Prop):Prop :=
 ∀ a' w' F' ρ',RE w' F' ρ' a' e'→St w' F' ρ' Ow h'→Nxt Ow w F zO w' F' zO→(∀ r l,r<m→ρ r=some l→ρ' r=some l)→a'.tmps.size=n→a'.defers=[]→Q (exi x) a' w'
theorem eF.step {w1:World}{F1:Nat→Prop}{ρ1:y9}{m:Nat}{n:Nat}{x:Exi}{e':Env}{h':Heap}{Q:Exit→Act→World→Prop}(hK:eF Ow w F ρ m n x e' h' Q)(hN:Nxt Ow w F zO w1 F1 zO)(hx:∀ r l,r<m→ρ r=some l→ρ1 r=some l):eF Ow w1 F1 ρ1 m n x e' h' Q :=
 fun a' w' F' ρ' h1 h2 h3 h4 h5 h6=>hK a' w' F' ρ' h1 h2 (hN.trans h3) (fun r l hr hl=>h4 r l hr (hx r l hr hl)) h5 h6
theorem vw {W0:World}{pol:Pol}{rec:Rec}(hrec:wi P W0 rec)(hloop:eE P W0 pol rec){f:Nat}{fn:Func}{body:Code}(hf:P.funcs[f]? = some fn)(hbody:fn.body=some body)(hbOK:xn (oQ P pol f) fn.ntmps body=true){m:Nat} :
 ∀ (c:Code) (p:Nat) {w:World} {F:Nat→Prop} {ρ:y9} {h:Heap} {e:Env} {x:Exi} {e':Env} {h':Heap} {a:Act} {Q:Exit→Act→World→Prop},
  evC P pol rec f m c p e h=some (x,e',h')→1≤p→yZ body (turns p)=some c→vy W0 w F→St w F ρ Ow h→OkC Ow w→RE w F ρ a e→a.tmps.size=fn.ntmps→a.defers=[] →
  eF Ow w F ρ m fn.ntmps x e' h' Q→c.wp P Q a w
 | .skip,p,w,F,ρ,h,e,x,e',h',a,Q,hev,hp,hat,hB,hS,hO,he,hn,hd,hQ=>by
  simp only[evC]at hev;cases hev;exact wp_skip (hQ a w F ρ he hS (Nxt.refl _ _ _ _) (fun _ _ _ x=>x) hn hd)
 | .exit id,p,w,F,ρ,h,e,x,e',h',a,Q,hev,hp,hat,hB,hS,hO,he,hn,hd,hQ=>by
  simp only[evC]at hev;cases hev;exact wp_exit (hQ a w F ρ he hS (Nxt.refl _ _ _ _) (fun _ _ _ x=>x) hn hd)
 | .ret,p,w,F,ρ,h,e,x,e',h',a,Q,hev,hp,hat,hB,hS,hO,he,hn,hd,hQ=>by
  simp only[evC]at hev;cases hev;exact wp_ret (hQ a w F ρ he hS (Nxt.refl _ _ _ _) (fun _ _ _ x=>x) hn hd)
 | .seq c1 c2, p, w, F, ρ, h, e, x, e', h', a, Q, hev, hp, hat, hB, hS, hO, he, hn, hd, hQ => by
  simp only[evC]at hev;have a1:yZ body (turns (2*p))=some c1:=by
   have:=uq hp 0 (by omega);simp only[Nat.add_zero]at this;rw[this,yX _ _ _ _ hat];rfl
  have a2:yZ body (turns (2*p+1))=some c2:=by
   rw[uq hp 1 (by omega),yX _ _ _ _ hat];rfl
  refine wp_seq ?_
  split at hev
  · rename_i e1 h1 h1ev;refine vw hrec hloop hf hbody hbOK c1 (2*p) h1ev (by omega) a1 hB hS hO he hn hd fun a' w' F' ρ' k1 k2 k3 kx k4 k5=>?_
    exact vw hrec hloop hf hbody hbOK c2 (2*p+1) hev (by omega) a2 (hB.next k3) k2 (hO.mono k3.size) k1 k4 k5 (hQ.step k3 kx)
  · rename_i hne;refine vw hrec hloop hf hbody hbOK c1 (2*p) hev (by omega) a1 hB hS hO he hn hd fun a' w' F' ρ' k1 k2 k3 kx k4 k5=>?_
    have:=hQ a' w' F' ρ' k1 k2 k3 kx k4 k5
    cases x with
    | normal=>exact absurd hev (hne e' h')
    | exit id=>exact this
    | ret=>exact this
 | .cond c c1 c2, p, w, F, ρ, h, e, x, e', h', a, Q, hev, hp, hat, hB, hS, hO, he, hn, hd, hQ => by
  simp only[evC]at hev;have a1:yZ body (turns (2*p))=some c1:=by
   have:=uq hp 0 (by omega);simp only[Nat.add_zero]at this;rw[this,yX _ _ _ _ hat];rfl
  have a2:yZ body (turns (2*p+1))=some c2:=by
   rw[uq hp 1 (by omega),yX _ _ _ _ hat];rfl
  split at hev
  · rename_i t hc;have hcv:=yO (P:=P) he 0 c;rw[hc]at hcv;refine wp_cond (t:=t) (fB hcv) ?_
    cases t with
    | true=>simp only[if_true]at hev ⊢;exact vw hrec hloop hf hbody hbOK c1 (2*p) hev (by omega) a1 hB hS hO he hn hd hQ
    | false=>simp only[Bool.false_eq_true,if_false]at hev ⊢;exact vw hrec hloop hf hbody hbOK c2 (2*p+1) hev (by omega) a2 hB hS hO he hn hd hQ
  · cases hev
 | .block id c, p, w, F, ρ, h, e, x, e', h', a, Q, hev, hp, hat, hB, hS, hO, he, hn, hd, hQ => by
  simp only[evC]at hev;have a1:yZ body (turns (2*p))=some c:=by
   have:=uq hp 0 (by omega);simp only[Nat.add_zero]at this;rw[this,yX _ _ _ _ hat];rfl
  refine wp_block ?_
  split at hev
  · rename_i id' e1 h1 h1ev;refine vw hrec hloop hf hbody hbOK c (2*p) h1ev (by omega) a1 hB hS hO he hn hd fun a' w' F' ρ' k1 k2 k3 kx k4 k5=>?_
    simp only[exi,Exit.inBlock]
    split at hev
    · rename_i hid
      cases hev;rw[if_pos hid];exact hQ a' w' F' ρ' k1 k2 k3 kx k4 k5
    · rename_i hid
      cases hev;rw[if_neg hid];exact hQ a' w' F' ρ' k1 k2 k3 kx k4 k5
  · rename_i hne;refine vw hrec hloop hf hbody hbOK c (2*p) hev (by omega) a1 hB hS hO he hn hd fun a' w' F' ρ' k1 k2 k3 kx k4 k5=>?_
    have:=hQ a' w' F' ρ' k1 k2 k3 kx k4 k5
    cases x with
    | normal=>exact this
    | exit id'=>exact absurd hev (hne id' e' h')
    | ret=>exact this
 | .loop b,p,w,F,ρ,h,e,x,e',h',a,Q,hev,hp,hat,hB,hS,hO,he,hn,hd,hQ=>by
  simp only[evC]at hev
  split at hev
  · rename_i x' outs h1 hr
    cases hev;obtain⟨fn',c',b',f1,f2,f3,f4⟩:=hloop f p m _ _ _ _ _ hr;rw[hf]at f1;cases f1;rw[hbody]at f2;cases f2;rw[hat]at f3;cases f3;obtain⟨ρ',k1,k2,kp⟩:=fI (m:=m) hS (uX he (pol.live f p));exact (f4 hp hbOK Ow w F ρ' a Q hB k2 hO k1 hn hd (hQ.step (Nxt.refl _ _ _ _) fun r l hr hl=>(kp r hr).trans hl)).1
  · cases hev
 | .region id ops draw, p, w, F, ρ, h, e, x, e', h', a, Q, hev, hp, hat, hB, hS, hO, he, hn, hd, hQ => by
  simp only[evC]at hev
  split at hev
  · cases hev
  · rename_i hdr;have hcOK:=tN _ hbOK hat;simp only[xn,Bool.and_eq_true]at hcOK;obtain⟨hdst,hdraw⟩:=hcOK
    split at hev
    · rename_i e1 h1 hops
      cases hev
      cases draw with
      | false =>
       simp only[Bool.false_and,Bool.false_eq_true,if_false]at hops;rw[bm (List.range ops.size) ops.toList e _ (nr ops)]at hops;obtain⟨F1,ρ1,g1,g2⟩:=Z6 hO.z e (pol.gh f id) hS;exact wp_region (UA hrec hdst _ hops (hB.next g2) g1 hO (g2.re he) hn hd fun a' w' F' ρ' k1 k2 k3 k4 k5=>hQ a' w' F' ρ' k1 k2 ((g2.trans k3).forget (Ext.refl _)) (fun r l _ hl=>k3.ext r l (g2.ext r l hl)) k4 k5)
      | true =>
       have hdr':pol.dr f=true:=by simpa using hdr
       have hok:ma P ops=true:=by simpa [oQ,hdr'] using hdraw
       simp only[Bool.true_and,if_true]at hops;obtain⟨F1,ρ1,g1,g2⟩:=Z6 hO.z e (pol.gh f id) hS
       by_cases hc:(pol.own f&&pol.dm f id)=true
       · by_cases hall:ops.toList.all (ym pol f)=true
         · simp only[hall,Bool.not_true,Bool.false_eq_true,if_false]at hops;have hops':(if !(ops.toList.all (ym pol f)) then uN P pol rec f ops e (ghH (pol.gh f id) e h) else wK P pol rec f ops ops.toList e (ghH (pol.gh f id) e h))=some (e',h'):=by
            simp only[hall,Bool.not_true,Bool.false_eq_true,if_false];exact hops
           exact YH (hB.next g2) hrec hdst hok hops' g1 hO (g2.re he) hn hd fun a' w' F' ρ' k1 k2 k3 k4 k5=>hQ a' w' F' ρ' k1 k2 ((g2.trans k3).forget (Ext.refl _)) (fun r l _ hl=>k3.ext r l (g2.ext r l hl)) k4 k5
         · simp only[hall,hc,Bool.not_false,if_true]at hops;exact Vi (hB.next g2) hrec hdst hok hops g1 hO (g2.re he) hn hd fun a' w' F' ρ' k1 k2 k3 k4 k5=>hQ a' w' F' ρ' k1 k2 ((g2.trans k3).forget (Ext.refl _)) (fun r l _ hl=>k3.ext r l (g2.ext r l hl)) k4 k5
       · simp only[hc,Bool.false_eq_true,if_false]at hops;exact YH (hB.next g2) hrec hdst hok hops g1 hO (g2.re he) hn hd fun a' w' F' ρ' k1 k2 k3 k4 k5=>hQ a' w' F' ρ' k1 k2 ((g2.trans k3).forget (Ext.refl _)) (fun r l _ hl=>k3.ext r l (g2.ext r l hl)) k4 k5
    · cases hev
 | .rangeFunc _ _ _ _,p,w,F,ρ,h,e,x,e',h',a,Q,hev,hp,hat,hB,hS,hO,he,hn,hd,hQ=>by simp[evC]at hev
 | .scope _,p,w,F,ρ,h,e,x,e',h',a,Q,hev,hp,hat,hB,hS,hO,he,hn,hd,hQ=>by simp[evC]at hev
 | .label _,p,w,F,ρ,h,e,x,e',h',a,Q,hev,hp,hat,hB,hS,hO,he,hn,hd,hQ=>by simp[evC]at hev
 | .goto _,p,w,F,ρ,h,e,x,e',h',a,Q,hev,hp,hat,hB,hS,hO,he,hn,hd,hQ=>by simp[evC]at hev
 | .refuse _,p,w,F,ρ,h,e,x,e',h',a,Q,hev,hp,hat,hB,hS,hO,he,hn,hd,hQ=>by simp[evC]at hev
def nY (a:Act):ResultVar→Sem Value
 | .tmp t=>pure (a.tmps.getD t undef)
 | .cell b t=>do loadVar t (← asAddr (a.tmps.getD b undef))
theorem fD (hS:St w F ρ Ow h){a:Act}{e:Env}(he:RE w F ρ a e):∀ (rs:List ResultVar) {vs:List V},vW P e h rs=some vs →
 ∃ us:List Value,(rs.mapM (nY a)).run P w=.ok us w∧RVs w F ρ us vs
 | [],vs,hr=>by simp only[vW]at hr;cases hr;exact⟨[],rfl,.nil⟩
 | .tmp t::rs,vs,hr=>by
  simp only[vW]at hr
  split at hr
  · rename_i vs' h1
    cases hr;obtain⟨us,e1,e2⟩:=fD hS he rs h1;refine⟨a.tmps.getD t undef::us,?_,.cons (he t) e2⟩;have e5:(nY a (.tmp t)).run P w=.ok (a.tmps.getD t undef) w:=rfl;rw[List.mapM_cons,Sem.run_bind,e5];simp only[Result.andThen_ok];rw[Sem.run_bind,e1];rfl
  · cases hr
 | .cell b t::rs,vs,hr=>by
  simp only[vW]at hr
  split at hr
  · rename_i v hl
    split at hr
    · rename_i vs' h1
      cases hr;obtain⟨us,e1,e2⟩:=fD hS he rs h1;obtain⟨u,e3,e4⟩:=ZZ (P:=P) hS hl (he b);have hptr:∃ ad,a.tmps.getD b undef=.pointer (some ad):=by
       have hb:=he b;unfold load at hl;generalize hgx:a.tmps.getD b undef=z at hb;generalize hge:e b=eb at hb hl
       cases hb with
       | ptr=>exact⟨_,rfl⟩
       | t _ _ hx=>cases hx<;>first|exact⟨_,rfl⟩|simp at hl
       | _=>simp at hl
      obtain⟨ad,hptr⟩:=hptr;refine⟨u::us,?_,.cons e4 e2⟩;have e3':(loadVar t ad).run P w=.ok u w:=by
       rw[hptr]at e3;simpa [Instr.loadAt,Instr.sureAddr] using e3
      have e5:(nY a (.cell b t)).run P w=.ok u w:=by simp[nY,hptr,asAddr,e3']
      rw[List.mapM_cons,Sem.run_bind,e5];simp only[Result.andThen_ok];rw[Sem.run_bind,e1];rfl
    · cases hr
  · cases hr
theorem lR (hS:St w F ρ Ow h){a:Act}{e:Env}(he:RE w F ρ a e){fn:Func}{vs:List V}(hr:vW P e h fn.results.toList=some vs):∃ u,(results fn a.tmps).run P w=.ok u w∧RV w F ρ u (zk vs):=by
 obtain⟨us,e1,e2⟩:=fD hS he fn.results.toList hr;have hm:(fn.results.mapM (nY a)).run P w=.ok us.toArray w:=by
  rw[Array.mapM_eq_mapM_toList,Sem.run_map,e1];rfl
 have hres:results fn a.tmps=(do let vs ← fn.results.mapM (nY a);pure (if h:vs.size=1 then vs[0] else .tuple vs)):=by
  unfold results
  congr 2
 rw[hres,Sem.run_bind,hm];simp only[Result.andThen_ok,Sem.run_pure];refine⟨_,rfl,?_⟩
 cases e2 with
 | nil=>exact RV.gN .nil
 | cons h1 h2 =>
  cases h2 with
  | nil=>simpa [zk] using h1
  | cons h3 h4 =>
   rw[dif_neg (by simp)];simp only[zk];exact RV.gN (.cons h1 (.cons h3 h4))
theorem qY:∀ (us:List Value) (n:Nat) (pre:List Value) (post:List Value),n=us.length→tU ⟨(pre++us++post).toArray,[]⟩ ((List.range' pre.length n))=us
 | [],n,pre,post,hn=>by subst hn;rfl
 | u::us,n,pre,post,hn=>by
  subst hn;simp only[List.length_cons,List.range'_succ,tU,List.map_cons];have h1:=qY us us.length (pre++[u]) post rfl;simp only[List.length_append,List.length_singleton,tU,List.append_assoc,List.singleton_append,List.cons_append,List.nil_append]at h1;simp only[List.append_assoc,List.cons_append];rw[h1]
  congr 1
  simp[List.getElem?_append_right]
def ExtPK (P:Program)(W0:World)(pol:Pol):Prop :=
 ∀ g args v, pol.ext g args = some v →
  (∃ fn, P.funcs[g]? = some fn ∧ (fn.name == "runtime.NumGoroutine") = false ∧ fn.body.isNone = false) ∧
  ∀ (w:World) (F:Nat→Prop) (us:Array Value),vy W0 w F→(∀ b,F b→b<w.heap.size)→RVs w F zO us.toList args →
   Calls P g us w fun e w'=>∃ u F',e=.returned u∧RV w' F' zO u v∧(∀ b,F' b→b<w'.heap.size)∧Nxt (own fun b=>w.heap.size≤b) w F zO w' F' zO
def rJ (P:Program)(W0:World)(g:Nat)(e:List V→Heap→Option (V×Heap)):Prop :=
 ∀ args h v h', e args h = some (v, h') →
  (∃ fn, P.funcs[g]? = some fn ∧ (fn.name == "runtime.NumGoroutine") = false ∧ fn.body.isNone = false) ∧
  ∀ (Ow:Own) (w:World) (F:Nat→Prop) (ρ:y9) (us:Array Value),vy W0 w F→St w F ρ Ow h→OkC Ow w→RVs w F ρ us.toList args →
   Calls P g us w fun e w'=>∃ u F' ρ',e=.returned u∧RV w' F' ρ' u v∧St w' F' ρ' Ow h'∧Nxt Ow w F zO w' F' zO∧∀ r l,r<h.length→ρ r=some l→ρ' r=some l
structure l0 (P:Program) (W0:World) (pol:Pol):Prop where
 p:ExtPK P W0 pol
 o:∀ g,rJ P W0 g (pol.extO g)
theorem Tu {W0 : World} {pol : Pol} {rec : Rec} (hE : l0 P W0 pol) (hP : ∀ f fn c, pol.no f = false → P.funcs[f]? = some fn → fn.body = some c → xn (oQ P pol f) fn.ntmps c = true) (hrec : wi P W0 rec) (hloop : eE P W0 pol rec) : wi P W0 (step P pol rec) ∧ eE P W0 pol (step P pol rec) := by
 refine⟨⟨?_,?_⟩,?_⟩
 · intro g args v hs;simp only[step]at hs
   split at hs
   · rename_i v' hx
     split at hs
     · cases hs;exact hE.p g args _ hx
     · cases hs
   split at hs
   · rename_i fn hf
     split at hs
     · rename_i c hb
       split at hs
       · cases hs
       · rename_i hc;simp only[Bool.or_eq_true,decide_eq_true_eq,not_or,Bool.not_eq_true,Nat.not_lt]at hc;obtain⟨⟨c1,c2⟩,c3⟩:=hc;refine⟨⟨fn,hf,c2,by simp[hb]⟩,fun w F us hB hF hu=>?_⟩;have hul:=zP hu;have hbOK:=hP g fn c c1 hf hb;have hS0:St w F zO (own fun b=>w.heap.size≤b) []:=VX hF;have hE0:RE w F zO ⟨us++Array.replicate (fn.ntmps - us.size) undef,[]⟩ (zb (List.range args.length) args):=by
          refine tX _ _ ?_;have:=qY us.toList args.length [] (List.replicate (fn.ntmps - us.size) undef) hul.symm;simp only[List.length_nil,List.nil_append]at this;rw[List.range_eq_range'];have e0:(⟨us++Array.replicate (fn.ntmps - us.size) undef,[]⟩:Act)=⟨(us.toList++List.replicate (fn.ntmps - us.size) undef).toArray,[]⟩:=by
           congr 1
           apply Array.ext';simp
          rw[e0,this];exact hu
         have hn0:(us++Array.replicate (fn.ntmps - us.size) undef).size=fn.ntmps:=by simp at hul ⊢;omega
         have finish : ∀ (x : Exi) e' h', (exi x = .normal ∨ exi x = .ret) → (match vW P e' h' fn.results.toList with
          | some vs=>match yP h' (zk vs) with
           | some (v,h'')=>some (w7.call v (h''.take 0))
           | none=>none
          | none=>none)=some (.call v [])→evC P pol rec g 0 c 1 (zb (List.range args.length) args) []=some (x,e',h') →
          Calls P g us w fun e w'=>∃ u F',e=.returned u∧RV w' F' zO u v∧(∀ b,F' b→b<w'.heap.size)∧Nxt (own fun b=>w.heap.size≤b) w F zO w' F' zO:=by
          intro x e' h' hx hfin hev;refine calls_of_wp hf hb (vw (m:=0) hrec hloop hf hb hbOK c 1 hev (Nat.le_refl _) rfl hB hS0 (OkC.own _ fun b hb=>hb) hE0 hn0 rfl fun a' w' F' ρ' k1 k2 k3 kx k4 k5=>?_)
          split at hfin
          · rename_i vs hvs
            split at hfin
            · rename_i v' h2 hg
              cases hfin;obtain⟨u,r1,r2⟩:=lR k2 k1 hvs;obtain⟨F2,g1,g2,g3⟩:=fP zO (zk vs) k2 r2 hg;have:a'.defers=[]∧∃ v',(results fn a'.tmps).run P w'=.ok v' w'∧∃ u F',Ending.returned v'=.returned u∧RV w' F' zO u v∧(∀ b,F' b→b<w'.heap.size)∧Nxt (own fun b=>w.heap.size≤b) w F zO w' F' zO :=
               ⟨k5,u,r1,u,F2,rfl,g1,g2.fsz,k3.trans (g3.forget (Ext.refl _))⟩
              rcases hx with hx|hx<;>rw[hx]<;>exact this
            · cases hfin
          · cases hfin
         split at hs
         · rename_i e' h' hev;exact finish .normal e' h' (.inl rfl) hs hev
         · rename_i e' h' hev;exact finish .ret e' h' (.inr rfl) hs hev
         · cases hs
     · cases hs
   · cases hs
 · intro gv g args h v h' hs;simp only[step]at hs
   split at hs
   · rename_i x hx
     cases gv with
     | true=>cases hs
     | false =>
      simp only[Bool.false_eq_true,if_false]at hs
      cases hs;exact hE.o g args h _ _ hx
   split at hs
   · rename_i fn hf
     split at hs
     · rename_i c hb
       split at hs
       · cases hs
       · rename_i hc;simp only[Bool.or_eq_true,decide_eq_true_eq,not_or,Bool.not_eq_true,Nat.not_lt]at hc;obtain⟨⟨c1,c2⟩,c3⟩:=hc;refine⟨⟨fn,hf,c2,by simp[hb]⟩,fun Ow w F ρ us hB hS hO hu=>?_⟩;have hul:=zP hu;have hbOK:=hP g fn c c1 hf hb;have hE0:RE w F ρ ⟨us++Array.replicate (fn.ntmps - us.size) undef,[]⟩ (zb (List.range args.length) args):=by
          refine tX _ _ ?_;have:=qY us.toList args.length [] (List.replicate (fn.ntmps - us.size) undef) hul.symm;simp only[List.length_nil,List.nil_append]at this;rw[List.range_eq_range'];have e0:(⟨us++Array.replicate (fn.ntmps - us.size) undef,[]⟩:Act)=⟨(us.toList++List.replicate (fn.ntmps - us.size) undef).toArray,[]⟩:=by
           congr 1
           apply Array.ext';simp
          rw[e0,this];exact hu
         have hn0:(us++Array.replicate (fn.ntmps - us.size) undef).size=fn.ntmps:=by simp at hul ⊢;omega
         have finish : ∀ (x : Exi) e' h1, (exi x = .normal ∨ exi x = .ret) → lQ gv h.length (vW P e' h1 fn.results.toList) h1 = some (.call v h') → evC P pol rec g h.length c 1 (zb (List.range args.length) args) h = some (x, e', h1) →
          Calls P g us w fun e w'=>∃ u F' ρ',e=.returned u∧RV w' F' ρ' u v∧St w' F' ρ' Ow h'∧Nxt Ow w F zO w' F' zO∧∀ r l,r<h.length→ρ r=some l→ρ' r=some l:=by
          intro x e' h1 hx hfin hev;refine calls_of_wp hf hb (vw (m:=h.length) hrec hloop hf hb hbOK c 1 hev (Nat.le_refl _) rfl hB hS hO hE0 hn0 rfl fun a' w' F' ρ' k1 k2 k3 kx k4 k5=>?_);unfold lQ at hfin
          split at hfin
          · rename_i vs hvs;obtain⟨u,r1,r2⟩:=lR k2 k1 hvs
            cases gv with
            | false =>
             simp only[Bool.false_eq_true,if_false]at hfin
             cases hfin;have hnd:(reach h1 3 (yL (List.range h.length) (refs.refss vs))).Nodup:=rm h1 3 _ (vH _ _ List.nodup_range);have hfirst:=pc h.length vs h1;have hS2:=o9 hnd k2;have hv:∀ l:List V,ren (idx (reach h1 3 (yL (List.range h.length) (refs.refss vs)))) (zk l)=zk (ren.rens (idx (reach h1 3 (yL (List.range h.length) (refs.refss vs)))) l):=fun l=>by
              match l with
              | []=>rfl
              | [a]=>rfl
              | a::b::l=>rfl
             have:a'.defers=[]∧∃ v',(results fn a'.tmps).run P w'=.ok v' w'∧∃ u F' ρ',Ending.returned v'=.returned u∧RV w' F' ρ' u (zk (yj h.length vs h1).1)∧St w' F' ρ' Ow (yj h.length vs h1).2∧Nxt Ow w F zO w' F' zO∧∀ r l,r<h.length→ρ r=some l→ρ' r=some l :=
              ⟨k5,u,r1,u,F',y8 ρ' _,rfl,by have:=Qa (reach h1 3 (yL (List.range h.length) (refs.refss vs))) _ r2;rw[hv]at this;exact this,hS2,k3,fun r l hr hl=>by simp[y8,hfirst r hr,kx r l hr hl]⟩
             rcases hx with hx|hx<;>rw[hx]<;>exact this
            | true =>
             simp only[if_true]at hfin
             split at hfin
             · rename_i v' h2 hg
               cases hfin;obtain⟨F2,g1,g2,g3⟩:=fP zO (zk vs) k2 r2 hg;have hnd:(reach h2 3 (yL (List.range h.length) (refs.refss []))).Nodup:=rm h2 3 _ (vH _ _ List.nodup_range);have hfirst:=pc h.length [] h2;have hS2:=o9 hnd g2;have:a'.defers=[]∧∃ v',(results fn a'.tmps).run P w'=.ok v' w'∧∃ u F' ρ',Ending.returned v'=.returned u∧RV w' F' ρ' u v∧St w' F' ρ' Ow (yj h.length [] h2).2∧Nxt Ow w F zO w' F' zO∧∀ r l,r<h.length→ρ r=some l→ρ' r=some l :=
                ⟨k5,u,r1,u,F2,y8 ρ' _,rfl,g1.mono (fun _ _=>rfl) (fun _ x=>x) (kb _),hS2,k3.trans (g3.forget (Ext.refl _)),fun r l hr hl=>by simp[y8,hfirst r hr,kx r l hr hl]⟩
               rcases hx with hx|hx<;>rw[hx]<;>exact this
             · cases hfin
          · cases hfin
         split at hs
         · rename_i e' h1 hev;exact finish .normal e' h1 (.inl rfl) hs hev
         · rename_i e' h1 hev;exact finish .ret e' h1 (.inr rfl) hs hev
         · cases hs
     · cases hs
   · cases hs
 · intro f p m vals h x outs h' hs;simp only[step]at hs
   split at hs
   · rename_i fn hf
     split at hs
     · rename_i c hb
       split at hs
       · rename_i b hat;refine⟨fn,c,b,hf,hb,hat,fun hp hbOK Ow w F ρ a Q hB hS hO hv hn hd hQ=>?_⟩;have hat':yZ c (turns (2*p))=some b:=by
          have:=uq hp 0 (by omega);simp only[Nat.add_zero]at this;rw[this,yX _ _ _ _ hat];rfl
         have body:b.wp P (Exit.then (mg P b Q) Q) a w:=by
          split at hs
          · rename_i e1 h1 hev;refine vw hrec hloop hf hb hbOK b (2*p) hev (by omega) hat' hB hS hO (tX _ _ hv) hn hd fun a' w' F' ρ' k1 k2 k3 kx k4 k5=>?_
            obtain⟨fn2,c2,b2,i1,i2,i3,i4⟩:=hloop f p m _ _ _ _ _ hs;rw[hf]at i1;cases i1;rw[hb]at i2;cases i2;rw[hat]at i3;cases i3;obtain⟨ρ2,j1,j2,jp⟩:=fI (m:=m) k2 (uX k1 (pol.live f p));exact (i4 hp hbOK Ow w' F' ρ2 a' Q (hB.next k3) j2 (hO.mono k3.size) j1 k4 k5 fun a2 w2 F2 ρ2' l1 l2 l3 lx l4 l5=>hQ a2 w2 F2 ρ2' l1 l2 (k3.trans l3) (fun r l hr hl=>lx r l hr ((jp r hr).trans (kx r l hr hl))) l4 l5).2
          · rename_i x' e1 h1 hne hev
            cases hs;refine vw hrec hloop hf hb hbOK b (2*p) hev (by omega) hat' hB hS hO (tX _ _ hv) hn hd fun a' w' F' ρ' k1 k2 k3 kx k4 k5=>?_
            obtain⟨ρ2,j1,j2,jp⟩:=fI (m:=m) k2 (uX k1 (pol.outs f p));have:=hQ a' w' F' ρ2 (tX _ _ j1) j2 k3 (fun r l hr hl=>(jp r hr).trans (kx r l hr hl)) k4 k5
            cases x with
            | normal=>exact absurd rfl hne
            | exit id=>exact this
            | ret=>exact this
          · cases hs
         exact⟨S0 body,au body⟩
       · cases hs
     · cases hs
   · cases hs
theorem Xf {W0:World}{pol:Pol}(hE:l0 P W0 pol)(hP:∀ f fn c,pol.no f=false→P.funcs[f]? = some fn→fn.body=some c→xn (oQ P pol f) fn.ntmps c=true):∀ n,wi P W0 (it P pol n)∧eE P W0 pol (it P pol n)
 | 0=>⟨⟨fun g args v hs=>by simp[it]at hs,fun gv g args h v h' hs=>by simp[it]at hs⟩,fun f p m vals h x outs h' hs=>by simp[it]at hs⟩
 | n+1=>Tu hE hP (Xf hE hP n).1 (Xf hE hP n).2
end Go.Proofs.YtefkoljdebekdaaGreatDoor.E
/- The evaluator without a bound on rounds: its answers, its equations. Conditions: those of each lemma. -/
namespace Go.Proofs.YtefkoljdebekdaaGreatDoor.E
variable {P:Program} {pol:Pol}
open Classical in
noncomputable def EV (P:Program)(pol:Pol):Rec:=fun req=>if h:∃ r,∃ n,it P pol n req=some r then some h.choose else none
def Le (a b:Rec):Prop:=∀ req r,a req=some r→b req=some r
structure zV {α:Type} (P:Program) (pol:Pol) (G:Rec→Option α):Prop where
 mono:∀ a b,Le a b→∀ r,G a=some r→G b=some r
 cont:(∀ n,Le (it P pol n) (it P pol (n+1)))→∀ r,G (EV P pol)=some r→∃ n,G (it P pol n)=some r
theorem zV.const {α:Type}(x:Option α):zV P pol (fun _=>x):=⟨fun _ _ _ _ h=>h,fun _ r h=>⟨0,h⟩⟩
theorem Le.le (hm:∀ n,Le (it P pol n) (it P pol (n+1))){n m:Nat}(h:n≤m):Le (it P pol n) (it P pol m):=by
 induction h with
 | refl=>exact fun _ _ x=>x
 | step _ ih=>exact fun req r x=>hm _ req r (ih req r x)
theorem zV.req (req:Req):zV P pol (fun rec=>rec req):=by
 refine⟨fun a b h r hr=>h req r hr,fun hm r hr=>?_⟩;unfold EV at hr
 split at hr
 · rename_i hx;obtain⟨n,hn⟩:=hx.choose_spec
   cases hr;exact⟨n,hn⟩
 · cases hr
theorem zV.bind {α β:Type}{G:Rec→Option α}{H:α→Rec→Option β}(hG:zV P pol G)(hH:∀ a,zV P pol (H a)):zV P pol (fun rec=>(G rec).bind fun a=>H a rec):=by
 refine⟨fun a b h r hr=>?_,fun hm r hr=>?_⟩
 · cases hg:G a with
   | none=>simp[hg]at hr
   | some x =>
    simp only[hg,Option.bind_some]at hr;simp only[hG.mono a b h x hg,Option.bind_some];exact (hH x).mono a b h r hr
 · cases hg:G (EV P pol) with
   | none=>simp[hg]at hr
   | some x =>
    simp only[hg,Option.bind_some]at hr;obtain⟨n,hn⟩:=hG.cont hm x hg;obtain⟨m,hm'⟩:=(hH x).cont hm r hr;refine⟨max n m,?_⟩;simp only[hG.mono _ _ (Le.le hm (Nat.le_max_left n m)) x hn,Option.bind_some];exact (hH x).mono _ _ (Le.le hm (Nat.le_max_right n m)) r hm'
theorem zV.congr {α:Type}{G G':Rec→Option α}(h:∀ rec,G' rec=G rec)(hG:zV P pol G):zV P pol G':=by
 have:G'=G:=funext h;rw[this];exact hG
theorem te (g:Nat)(args:List V):zV P pol (fun rec=>zr rec g args) :=
 (zV.bind (zV.req (.call g args [])) (fun r=>zV.const (match r with|.call v []=>some v|_=>none))).congr fun rec=>by
  unfold zr
  cases rec (.call g args []) with
  | none=>rfl
  | some r=>cases r with
   | call v h=>cases h<;>rfl
   | loop=>rfl
theorem de (f:Nat)(N:Option Nat)(dst:Option Nat)(g:Nat)(args:List V)(h:Heap):zV P pol (fun rec=>wL pol rec f N dst g args h):=by
 unfold wL
 cases pol.pm f (dst.getD 0) with
 | pure =>
  simp only
  cases asArg.asArgs args with
  | none =>
   simp only
   cases yI.snapVs h args with
   | none=>exact zV.const none
   | some az=>exact (zV.bind (te g az) (fun v=>zV.const (if zc v then some (v,h) else none))).congr fun rec=>by simp only;cases zr rec g az<;>rfl
  | some az=>exact (zV.bind (te g az) (fun v=>zV.const (some (v,h)))).congr fun rec=>by simp only;cases zr rec g az<;>rfl
 | frz =>
  simp only
  cases yP.gives h args with
  | none=>exact zV.const none
  | some x=>exact (zV.bind (te g x.1) (fun v=>zV.const (some (v,x.2)))).congr fun rec=>by simp only;cases zr rec g x.1<;>rfl
 | opn gv =>
  show zV P pol (fun rec=>(match rec (.callO gv g (yj 0 args h).1 (yj 0 args h).2) with
   | some (.call v h1)=>x7 N (xy h args) v h1 h
   | _=>none))
  refine (zV.bind (zV.req (.callO gv g (yj 0 args h).1 (yj 0 args h).2)) (fun r=>zV.const (match r with|.call v h1=>x7 N (xy h args) v h1 h|_=>none))).congr fun rec=>?_
  generalize rec (.callO gv g (yj 0 args h).1 (yj 0 args h).2)=x
  cases x with
  | none=>rfl
  | some r=>cases r<;>rfl
 | brw=>exact zV.const none
 | all=>exact zV.const none
theorem aM (g:Nat)(args:List V)(h:Heap):zV P pol (fun rec=>n5 rec g args h):=by
 unfold n5
 cases yI.snapVs h args with
 | none=>exact zV.const none
 | some az =>
  refine (zV.bind (zV.req (.callO false g az [])) (fun r=>zV.const (match r with|.call v h1=>(if zQ v&&h1.all yt then x7 none [] v h1 h else none)|_=>none))).congr fun rec=>?_
  simp only;generalize rec (.callO false g az [])=x
  cases x with
  | none=>rfl
  | some r=>cases r<;>rfl
theorem aO (g:Nat)(args:List V)(h:Heap):zV P pol (fun rec=>fq rec g args h):=by
 unfold fq;refine (zV.bind (zV.req (.callO false g args h)) (fun r=>zV.const (match r with|.call v h1=>some (v,h1)|_=>none))).congr fun rec=>?_
 generalize rec (.callO false g args h)=x
 cases x with
 | none=>rfl
 | some r=>cases r<;>rfl
theorem nM (f:Nat)(N:Option Nat)(o:Oper)(e:Env)(h:Heap):zV P pol (fun rec=>zU P pol rec f N o e h):=by
 obtain⟨dst,op,ty,pos,after,guard⟩:=o
 cases op with
 | call c =>
  obtain⟨callee,args,tys⟩:=c
  cases callee with
  | value x =>
   simp only[zU]
   cases fnV (opv P e 0 x) with
   | none=>exact zV.const none
   | some y=>exact de f N dst y.1 _ h
  | builtin b=>exact zV.const (blt P N b tys.toList (yl P e args.toList tys.toList) h)
  | invoke r m=>exact zV.const none
 | makeFunc fn first caps=>cases fn<;>exact zV.const _
 | _=>simp only[zU];exact zV.const _
theorem gG (f:Nat)(N:Option Nat)(o:Oper)(e:Env)(h:Heap):zV P pol (fun rec=>bare (bN N o) (zU P pol rec f N o e h)):=by
 cases bN N o with
 | none=>exact nM f N o e h
 | some k=>exact zV.const none
theorem aB (f:Nat)(N:Option Nat)(o:Oper)(e:Env)(h:Heap):zV P pol (fun rec=>we P pol rec f N o e h):=by
 unfold we
 split
 rotate_left
 · exact nM f N o e h
 have old:∀ {G:Rec→Option (V×Heap)},(∀ rec,G rec=none)→zV P pol (fun rec=>match G rec with|some r=>some r|none=>bare (bN N o) (zU P pol rec f N o e h)):=fun hG =>
  (gG f N o e h).congr fun rec=>by rw[hG rec]
 have one:∀ (x:Option (V×Heap)),zV P pol (fun rec=>match x with|some r=>some r|none=>bare (bN N o) (zU P pol rec f N o e h)):=fun x=>by
  cases x with
  | none=>exact gG f N o e h
  | some r=>exact zV.const _
 obtain⟨dst,op,ty,pos,after,guard⟩:=o
 cases op with
 | buildSlice t len parts=>exact one _
 | makeSlice t l c=>exact one _
 | call c =>
  obtain⟨callee,args,tys⟩:=c
  cases callee with
  | builtin b=>exact one _
  | invoke r m=>exact old fun rec=>rfl
  | value x =>
   simp only[yS]
   cases hx:fnV (opv P e 0 x) with
   | none=>exact old fun rec=>rfl
   | some y =>
    simp only
    cases hp:pol.pm f (dst.getD 0) with
    | brw =>
     refine (aM y.1 (yl P e args.toList tys.toList++y.2) h).congr fun rec=>?_
     simp only[zU,hx,wL,hp]
     cases n5 rec y.1 (yl P e args.toList tys.toList++y.2) h<;>rfl
    | all =>
     refine (aO y.1 (yl P e args.toList tys.toList++y.2) h).congr fun rec=>?_
     simp only[zU,hx,wL,hp]
     cases fq rec y.1 (yl P e args.toList tys.toList++y.2) h<;>rfl
    | _=>exact old fun rec=>rfl
 | _=>exact old fun rec=>rfl
theorem mL (f:Nat)(N:Option Nat)(ops:Array Oper)(o:Oper)(e:Env)(h:Heap):zV P pol (fun rec=>w5 P pol rec f N ops o e h):=by
 unfold w5
 cases want ops o e with
 | none=>exact zV.const none
 | some b=>cases b with
  | false=>exact zV.const _
  | true=>exact (zV.bind (aB f N o e h) (fun x=>zV.const (some (put e o.dst x.1,x.2)))).congr fun rec=>by simp only;cases we P pol rec f N o e h<;>rfl
theorem kA (f:Nat)(N:Option Nat)(ops:Array Oper)(o:Oper)(e:Env)(h:Heap):zV P pol (fun rec=>uC P pol rec f N ops o e h):=by
 unfold uC
 cases want ops o e with
 | none=>exact zV.const none
 | some b=>cases b with
  | false=>exact zV.const _
  | true=>exact (zV.bind (nM f N o e h) (fun x=>zV.const (some (put e o.dst x.1,x.2)))).congr fun rec=>by simp only;cases zU P pol rec f N o e h<;>rfl
theorem ky (f:Nat)(ops:Array Oper):∀ (l:List Oper) (e:Env) (h:Heap),zV P pol (fun rec=>si P pol rec f ops l e h)
 | [],e,h=>zV.const _
 | o::l,e,h=>(zV.bind (mL f none ops o e h) (fun x=>ky f ops l x.1 x.2)).congr fun rec=>by simp only[si];cases w5 P pol rec f none ops o e h<;>rfl
theorem mJ (f:Nat)(ops:Array Oper):∀ (l:List Oper) (e:Env) (h:Heap),zV P pol (fun rec=>wK P pol rec f ops l e h)
 | [],e,h=>zV.const _
 | o::l,e,h=>(zV.bind (kA f none ops o e h) (fun x=>mJ f ops l x.1 x.2)).congr fun rec=>by simp only[wK];cases uC P pol rec f none ops o e h<;>rfl
theorem bo (f:Nat)(ops:Array Oper):∀ (Ns:List (Option Nat)) (l:List Oper) (e:Env) (h:Heap),zV P pol (fun rec=>evD P pol rec f ops Ns l e h)
 | [],[],e,h=>zV.const _
 | [],_::_,e,h=>zV.const none
 | _::_,[],e,h=>zV.const none
 | N::Ns,o::l,e,h=>(zV.bind (kA f N ops o e h) (fun x=>zV.bind (bo f ops Ns l x.1 x.2) (fun y=>zV.const (some (w6 N o e h::y.1,y.2.1,y.2.2))))).congr fun rec=>by
  simp only[evD]
  cases uC P pol rec f N ops o e h with
  | none=>rfl
  | some x=>simp only[Option.bind_some];cases evD P pol rec f ops Ns l x.1 x.2<;>rfl
theorem bj (f:Nat)(ops:Array Oper):∀ (Ns:List (Option Nat)) (l:List Oper) (e:Env) (h:Heap),zV P pol (fun rec=>evR P pol rec f ops Ns l e h)
 | _,[],e,h=>zV.const _
 | Ns,o::l,e,h=>(zV.bind (mL f (hdN Ns) ops o e h) (fun x=>zV.bind (bj f ops Ns.tail l x.1 x.2) (fun y=>zV.const (some ((h.length::yb (hdN Ns) o e h)::y.1,y.2.1,y.2.2))))).congr fun rec=>by
  simp only[evR]
  cases w5 P pol rec f (hdN Ns) ops o e h with
  | none=>rfl
  | some x=>simp only[Option.bind_some];cases evR P pol rec f ops Ns.tail l x.1 x.2<;>rfl
theorem V8 (f:Nat)(kp:Bool)(ops:Array Oper)(e:Env)(h:Heap):zV P pol (fun rec=>evZ P pol rec f kp ops e h) :=
 (zV.bind (bj f ops (if kp then kids h.length ops.toList else []) ops.toList e (if kp then h++List.replicate (oR ops.toList) .dead else h)) (fun y=>zV.const (if zOK pol f kp ops y.1 then some (y.2.1,y.2.2) else none))).congr fun rec=>by
  unfold evZ
  cases evR P pol rec f ops (if kp then kids h.length ops.toList else []) ops.toList e (if kp then h++List.replicate (oR ops.toList) .dead else h)<;>rfl
theorem da (f:Nat)(ops:Array Oper)(e:Env)(h:Heap):zV P pol (fun rec=>uN P pol rec f ops e h) :=
 (zV.bind (bo f ops (vC pol f h.length ops.toList) ops.toList e (h++List.replicate (wF pol f ops.toList) .dead)) (fun y=>zV.const (if bV pol f ops y.1 then some (y.2.1,y.2.2) else none))).congr fun rec=>by
  unfold uN
  cases evD P pol rec f ops (vC pol f h.length ops.toList) ops.toList e (h++List.replicate (wF pol f ops.toList) .dead)<;>rfl
theorem u0 (f m:Nat):∀ (c:Code) (p:Nat) (e:Env) (h:Heap),zV P pol (fun rec=>evC P pol rec f m c p e h)
 | .skip,p,e,h=>zV.const _
 | .exit _,p,e,h=>zV.const _
 | .ret,p,e,h=>zV.const _
 | .seq a b, p, e, h => (zV.bind (u0 f m a (2 * p) e h) (fun x => (match x with
  | (.normal,e',h')=>u0 f m b (2*p+1) e' h'
  | (.exit id,e',h')=>zV.const (some (Exi.exit id,e',h'))
  | (.ret,e',h')=>zV.const (some (Exi.ret,e',h')):zV P pol (fun rec=>match x with
  | (.normal,e',h')=>evC P pol rec f m b (2*p+1) e' h'
  | (.exit id,e',h')=>some (.exit id,e',h')
  | (.ret,e',h')=>some (.ret,e',h'))))).congr fun rec=>by
   simp only[evC]
   cases evC P pol rec f m a (2*p) e h with
   | none=>rfl
   | some x=>obtain⟨x,e',h'⟩:=x;cases x<;>rfl
 | .cond c a b,p,e,h=>by
  simp only[evC]
  split
  · rename_i t ht
    cases t with
    | true=>exact u0 f m a (2*p) e h
    | false=>exact u0 f m b (2*p+1) e h
  · exact zV.const none
 | .block id c, p, e, h => (zV.bind (u0 f m c (2 * p) e h) (fun x => zV.const (match x with
  | (.exit id',e',h')=>if id'=id then some (.normal,e',h') else some (.exit id',e',h')
  | r=>some r))).congr fun rec=>by
   simp only[evC]
   cases evC P pol rec f m c (2*p) e h with
   | none=>rfl
   | some x=>obtain⟨x,e',h'⟩:=x;cases x<;>rfl
 | .loop _, p, e, h => (zV.bind (zV.req (.loop f p m (yj m ((pol.live f p).map e) h).1 (yj m ((pol.live f p).map e) h).2)) (fun x => zV.const (match x with
  | .loop x vals h'=>some (x,zb (pol.outs f p) vals,h')
  | _=>none))).congr fun rec=>by
   simp only[evC]
   cases rec (.loop f p m (yj m ((pol.live f p).map e) h).1 (yj m ((pol.live f p).map e) h).2) with
   | none=>rfl
   | some x=>cases x<;>rfl
 | .region id ops draw,p,e,h=>by
  simp only[evC]
  split
  · exact zV.const none
  · split
    · split
      · exact (zV.bind (V8 f (pol.dm f (id+1000)) ops e (ghH (pol.gh f id) e h)) (fun x=>zV.const (some (Exi.normal,x.1,x.2)))).congr fun rec=>by cases evZ P pol rec f (pol.dm f (id+1000)) ops e (ghH (pol.gh f id) e h)<;>rfl
      · exact (zV.bind (da f ops e (ghH (pol.gh f id) e h)) (fun x=>zV.const (some (Exi.normal,x.1,x.2)))).congr fun rec=>by cases uN P pol rec f ops e (ghH (pol.gh f id) e h)<;>rfl
    · split
      · exact (zV.bind (mJ f ops ops.toList e (ghH (pol.gh f id) e h)) (fun x=>zV.const (some (Exi.normal,x.1,x.2)))).congr fun rec=>by cases wK P pol rec f ops ops.toList e (ghH (pol.gh f id) e h)<;>rfl
      · exact (zV.bind (ky f ops ops.toList e (ghH (pol.gh f id) e h)) (fun x=>zV.const (some (Exi.normal,x.1,x.2)))).congr fun rec=>by cases si P pol rec f ops ops.toList e (ghH (pol.gh f id) e h)<;>rfl
 | .rangeFunc _ _ _ _,p,e,h=>zV.const _
 | .scope _,p,e,h=>zV.const _
 | .label _,p,e,h=>zV.const _
 | .goto _,p,e,h=>zV.const _
 | .refuse _,p,e,h=>zV.const _
theorem ng (req : Req) : zV P pol (fun rec => step P pol rec req) := by
 cases req with
 | call f args h =>
  simp only[step]
  cases pol.ext f args with
  | some v=>exact zV.const _
  | none =>
  simp only
  cases P.funcs[f]? with
  | none=>exact zV.const none
  | some fn =>
   simp only
   cases fn.body with
   | none=>exact zV.const none
   | some c =>
    simp only
    split
    · exact zV.const none
    · refine (zV.bind (u0 f h.length c 1 (zb (List.range args.length) args) h) (fun x=>zV.const (match x with
       | (.normal, e', h') => (match vW P e' h' fn.results.toList with
        | some vs=>match yP h' (zk vs) with
         | some (v,h'')=>some (w7.call v (h''.take h.length))
         | none=>none
        | none=>none)
       | (.ret, e', h') => (match vW P e' h' fn.results.toList with
        | some vs=>match yP h' (zk vs) with
         | some (v,h'')=>some (w7.call v (h''.take h.length))
         | none=>none
        | none=>none)
       | _=>none))).congr fun rec=>?_
      cases evC P pol rec f h.length c 1 (zb (List.range args.length) args) h with
      | none=>rfl
      | some x=>obtain⟨x,e',h'⟩:=x;cases x<;>rfl
 | callO gv f args h =>
  simp only[step]
  cases pol.extO f args h with
  | some x=>exact zV.const _
  | none =>
  simp only
  cases P.funcs[f]? with
  | none=>exact zV.const none
  | some fn =>
   simp only
   cases fn.body with
   | none=>exact zV.const none
   | some c =>
    simp only
    split
    · exact zV.const none
    · refine (zV.bind (u0 f h.length c 1 (zb (List.range args.length) args) h) (fun x=>zV.const (match x with
       | (.normal,e',h')=>lQ gv h.length (vW P e' h' fn.results.toList) h'
       | (.ret,e',h')=>lQ gv h.length (vW P e' h' fn.results.toList) h'
       | _=>none))).congr fun rec=>?_
      cases evC P pol rec f h.length c 1 (zb (List.range args.length) args) h with
      | none=>rfl
      | some x=>obtain⟨x,e',h'⟩:=x;cases x<;>rfl
 | loop f p m vals h =>
  simp only[step]
  cases P.funcs[f]? with
  | none=>exact zV.const none
  | some fn =>
   simp only
   cases fn.body with
   | none=>exact zV.const none
   | some c =>
    simp only
    split
    · rename_i b hb;refine (zV.bind (u0 f m b (2*p) (zb (pol.live f p) vals) h) (fun x=>(match x with
       | (.normal,e',h')=>zV.req (.loop f p m (yj m ((pol.live f p).map e') h').1 (yj m ((pol.live f p).map e') h').2)
       | (.exit id,e',h')=>zV.const (some (w7.loop (.exit id) (yj m ((pol.outs f p).map e') h').1 (yj m ((pol.outs f p).map e') h').2))
       | (.ret,e',h')=>zV.const (some (w7.loop .ret (yj m ((pol.outs f p).map e') h').1 (yj m ((pol.outs f p).map e') h').2)):zV P pol (fun rec=>match x with
       | (.normal,e',h')=>rec (.loop f p m (yj m ((pol.live f p).map e') h').1 (yj m ((pol.live f p).map e') h').2)
       | (.exit id,e',h')=>some (.loop (.exit id) (yj m ((pol.outs f p).map e') h').1 (yj m ((pol.outs f p).map e') h').2)
       | (.ret,e',h')=>some (.loop .ret (yj m ((pol.outs f p).map e') h').1 (yj m ((pol.outs f p).map e') h').2))))).congr fun rec=>?_
      cases evC P pol rec f m b (2*p) (zb (pol.live f p) vals) h with
      | none=>rfl
      | some x=>obtain⟨x,e',h'⟩:=x;cases x<;>rfl
    · exact zV.const none
theorem oK:∀ n,Le (it P pol n) (it P pol (n+1))
 | 0=>fun req r h=>by simp[it]at h
 | n+1=>fun req r h=>(ng req).mono _ _ (oK n) r h
theorem RY {n:Nat}{req:Req}{r:w7}(h:it P pol n req=some r):EV P pol req=some r:=by
 unfold EV;have hx:∃ r,∃ n,it P pol n req=some r:=⟨r,n,h⟩;rw[dif_pos hx];obtain⟨m,hm⟩:=hx.choose_spec;have h1:=Le.le oK (Nat.le_max_left n m) req r h;have h2:=Le.le oK (Nat.le_max_right n m) req _ hm;rw[h1]at h2;exact h2.symm
theorem Tg {req:Req}{r:w7}(h:EV P pol req=some r):∃ n,it P pol n req=some r:=(zV.req req).cont oK r h
theorem oU {req:Req}{r:w7}(h:step P pol (EV P pol) req=some r):EV P pol req=some r:=by
 obtain⟨n,hn⟩:=(ng req).cont oK r h;exact RY (n:=n+1) hn
theorem mh {g:Nat}{args:List V}{v:V}(h:pol.ext g args=some v):EV P pol (.call g args [])=some (.call v []):=by
 apply oU;simp[step,h]
theorem oV {g:Nat}{args:List V}{h:Heap}{x:V×Heap}(hx:pol.extO g args h=some x):EV P pol (.callO false g args h)=some (.call x.1 x.2):=by
 apply oU;simp[step,hx]
theorem X3 {W0:World}(hE:l0 P W0 pol)(hP:∀ f fn c,pol.no f=false→P.funcs[f]? = some fn→fn.body=some c→xn (oQ P pol f) fn.ntmps c=true){g:Nat}{args:List V}{v:V}(h:EV P pol (.call g args [])=some (.call v [])) :
 ∀ (w:World) (F:Nat→Prop) (us:Array Value),vy W0 w F→(∀ b,F b→b<w.heap.size)→RVs w F zO us.toList args →
  Calls P g us w fun e w'=>∃ u F',e=.returned u∧RV w' F' zO u v∧(∀ b,F' b→b<w'.heap.size)∧Nxt (own fun b=>w.heap.size≤b) w F zO w' F' zO:=by
 obtain⟨n,hn⟩:=Tg h;exact ((Xf hE hP n).1.clo g args v hn).2
theorem jv {W0:World}(hE:l0 P W0 pol)(hP:∀ f fn c,pol.no f=false→P.funcs[f]? = some fn→fn.body=some c→xn (oQ P pol f) fn.ntmps c=true){gv:Bool}{g:Nat}{args:List V}{h h':Heap}{v:V}(hv:EV P pol (.callO gv g args h)=some (.call v h')) :
 (∃ fn, P.funcs[g]? = some fn ∧ (fn.name == "runtime.NumGoroutine") = false ∧ fn.body.isNone = false) ∧
 ∀ (Ow:Own) (w:World) (F:Nat→Prop) (ρ:y9) (us:Array Value),vy W0 w F→St w F ρ Ow h→OkC Ow w→RVs w F ρ us.toList args →
  Calls P g us w fun e w'=>∃ u F' ρ',e=.returned u∧RV w' F' ρ' u v∧St w' F' ρ' Ow h'∧Nxt Ow w F zO w' F' zO∧∀ r l,r<h.length→ρ r=some l→ρ' r=some l:=by
 obtain⟨n,hn⟩:=Tg hv;exact (Xf hE hP n).1.opn gv g args h v h' hn
end Go.Proofs.YtefkoljdebekdaaGreatDoor.E

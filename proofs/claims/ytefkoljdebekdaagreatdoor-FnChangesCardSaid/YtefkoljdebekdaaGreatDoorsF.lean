/- Joined: E11D E12 E12D. Conditions: those of each lemma. -/
import Derived.Test.YtefkoljdebekdaaGreatDoorsE
set_option linter.unusedVariables false
set_option linter.unusedSimpArgs false
namespace Go.Proofs.YtefkoljdebekdaaGreatDoor.E
variable {P:Program} {w:World} {F:Nat→Prop} {ρ:y9} {Ow:Own} {h:Heap}
theorem uI (hz:∀ r,¬ Ow.z r)(m:GM)(r i:Nat):∀ (cs:List (Nat×Bool)) {F:Nat→Prop} {ρ:y9} {h:Heap},St w F ρ Ow h→∃ F' ρ',St w F' ρ' Ow (zI m r i cs h)∧Nxt Ow w F ρ w F' ρ'
 | [],F,ρ,h,hS=>⟨F,ρ,hS,Nxt.refl _ _ _ _⟩
 | c :: cs, F, ρ, h, hS => by
  simp only[zI]
  cases m with
  | fold=>exact uI hz .fold r i cs (Si hS r i c)
  | fgt=>exact uI hz .fgt r i cs (Sj hS r i c)
  | unf =>
   obtain⟨ρ1,k1,k2⟩:=To hS hz r i c;obtain⟨F2,ρ2,k3,k4⟩:=uI hz .unf r i cs k1;exact⟨F2,ρ2,k3,k2.trans k4⟩
  | frz =>
   obtain⟨F1,k1,k2⟩:=Sh hS r i c;obtain⟨F2,ρ2,k3,k4⟩:=uI hz .frz r i cs k1;exact⟨F2,ρ2,k3,k2.trans k4⟩
theorem Z6 (hz:∀ r,¬ Ow.z r)(e:Env):∀ (gs:List Gh) {F:Nat→Prop} {ρ:y9} {h:Heap},St w F ρ Ow h→∃ F' ρ',St w F' ρ' Ow (ghH gs e h)∧Nxt Ow w F ρ w F' ρ'
 | [],F,ρ,h,hS=>⟨F,ρ,hS,Nxt.refl _ _ _ _⟩
 | g :: gs, F, ρ, h, hS => by
  simp only[ghH];have one:∃ F' ρ',St w F' ρ' Ow (zX g e h)∧Nxt Ow w F ρ w F' ρ':=by
   unfold zX
   split
   · exact uI hz _ _ _ _ hS
   · exact⟨F,ρ,hS,Nxt.refl _ _ _ _⟩
  obtain⟨F1,ρ1,k1,k2⟩:=one;obtain⟨F2,ρ2,k3,k4⟩:=Z6 hz e gs k1;exact⟨F2,ρ2,k3,k2.trans k4⟩
mutual
theorem Zx {F':Nat→Prop}:∀ (v:V) {u:Value},RV w F' ρ u v→zQ v=true→RV w F ρ u v
 | .t x,u,hu,hx=>by
  simp only[zQ,Bool.and_eq_true]at hx
  cases hu with
  | t _ _ hy=>exact .t _ _ (s5 hy hx.1)
 | .nil sz,u,hu,hx=>by cases hu;exact .nil sz
 | .sl r off len cap,u,hu,hx=>by
  cases hu with
  | sl r off len cap L a c hρ ha hl hn hc0 hc1 hz=>exact .sl r off len cap L a c hρ ha hl hn hc0 hc1 hz
  | slP r cap a hρ hc=>exact .slP r cap a hρ hc
 | .agg cs,u,hu,hx=>by
  simp only[zQ]at hx
  cases hu with
  | agg vs cs g hs hg hr=>exact RV.eI (kS cs (xp hs hg hr) hx)
 | .tup cs,u,hu,hx=>by
  simp only[zQ]at hx
  cases hu with
  | tup vs cs g hs hg hr=>exact RV.gN (kS cs (xp hs hg hr) hx)
 | .o x,u,hu,hx=>.o _ _
 | .ptr r i j,u,hu,hx=>by simp[zQ]at hx
 | .fn f cs,u,hu,hx=>by simp[zQ]at hx
 | .und,u,hu,hx=>by simp[zQ]at hx
 | .bad,u,hu,hx=>by simp[zQ]at hx
theorem kS {F':Nat→Prop}:∀ (vs:List V) {us:List Value},RVs w F' ρ us vs→zQ.rowTs vs=true→RVs w F ρ us vs
 | [],us,hu,hx=>by cases hu;exact .nil
 | v::vs,us,hu,hx=>by
  simp only[zQ.rowTs,Bool.and_eq_true]at hx
  cases hu with
  | cons h1 h2=>exact .cons (Zx v h1 hx.1) (kS vs h2 hx.2)
end
theorem iq:∀ {vs:List V},zQ.rowTs vs=true→∀ {j:Nat} {v:V},vs[j]? = some v→zQ v=true
 | [],_,j,v,hj=>by simp at hj
 | x::vs,h,j,v,hj=>by
  simp only[zQ.rowTs,Bool.and_eq_true]at h
  cases j with
  | zero=>simp at hj;subst hj;exact h.1
  | succ j=>exact iq h.2 (by simpa using hj)
theorem Zy {F':Nat→Prop}{u:Value}{v:V}(hu:RV w F' ρ u v)(hx:zQ v=true):RV w F ρ u v:=Zx v hu hx
theorem Tw {F':Nat→Prop}{Ow2:Own}(hS:St w F' ρ Ow h)(hrow:h.all yt=true){n:Nat}(hF:∀ b,F b→b<n)(hOw:∀ b,Ow b→n≤b)(hOO:∀ b,Ow b→Ow2 b)(hn:n≤w.heap.size):St w F ρ Ow2 h:=by
 have hnF:∀ b,Ow b→¬ F b:=fun b hb hx=>by have:=hF b hx;have:=hOw b hb;omega
 refine⟨fun r b hr=>?_,hS.inj,fun b hb=>Nat.lt_of_lt_of_le (hF b hb) hn,hS.out,?_⟩
 · have hb:=hS.blk r b hr;have hrb:=List.all_eq_true.1 hrow b (List.mem_of_getElem? hr)
   cases b with
   | ts sz es =>
    rcases hb with⟨L,h1,h2,h3,h4,h5⟩|hb
    · refine .inl ⟨L,h1,h2,?_,hnF _ h5,hOO _ h5⟩;obtain⟨k1,k2,cc,el,fr,k3,k4,k5,k6,k7⟩:=h3;exact⟨k1,k2,cc,el,fr,k3,k4,k5,k6,fun i j cs x hi hj=>by
       obtain⟨u,hu,hr⟩:=k7 i j cs x hi hj;exact⟨u,hu,s5 hr (lq hrb hi hj).1⟩⟩
    · exact .inr hb
   | vs sz es =>
    rcases hb with⟨L,h1,h2,h3,h4,h5⟩|hb
    · refine .inl ⟨L,h1,h2,?_,hnF _ h5,hOO _ h5⟩;obtain⟨k1,k2,cc,el,fr,k3,k4,k5,k6,k7⟩:=h3;exact⟨k1,k2,cc,el,fr,k3,k4,k5,k6,fun i j cs x hi hj=>by
       obtain⟨u,hu,hr⟩:=k7 i j cs x hi hj;exact⟨u,hu,Zy hr (iq (List.all_eq_true.1 hrb cs (List.mem_of_getElem? hi)) hj)⟩⟩
    · exact .inr hb
   | fz sz es=>simp[yt]at hrb
   | dead=>trivial
 · obtain⟨φ,hφ⟩:=hS.own;exact⟨φ,hφ.cell,fun r i j b hb=>by
    obtain⟨k1,k2,k3,k4⟩:=hφ.act r i j b hb;exact⟨k1,hnF b k3,hOO b k3,k4⟩,hφ.sep,hφ.apart⟩
theorem VX (hF:∀ b,F b→b<w.heap.size):St w F zO Ow [] :=
 ⟨fun r b hr=>by simp at hr,fun r r' b b' L L' hr=>by simp at hr,hF,fun _ _=>rfl,fun _ _ _ _=>False,⟨fun r i j x ho=>by obtain⟨_,_,_,h1,_⟩:=ho;simp at h1,fun _ _ _ _ h=>h.elim,fun _ _ _ _ _ _ _ h=>h.elim,fun _ _ _ _ _ _ _ h=>h.elim⟩⟩
theorem QM (hS:St w F ρ Ow h)(hO:∀ b,w.heap.size≤b→Ow b)(hz:∀ r,¬ Ow.z r){rec:Rec}{W0:World}(hB:vy W0 w F)(hrec:wi P W0 rec){g:Nat}{args:List V}{v:V}{h':Heap}(hc:n5 rec g args h=some (v,h')){us:Array Value}(hu:RVs w F ρ us.toList args) :
 (∃ fn, P.funcs[g]? = some fn ∧ (fn.name == "runtime.NumGoroutine") = false ∧ fn.body.isNone = false) ∧
 Calls P g us w fun e w'=>∃ u F' ρ',e=.returned u∧RV w' F' ρ' u v∧St w' F' ρ' Ow h'∧Nxt Ow w F ρ w' F' ρ':=by
 unfold n5 at hc
 split at hc
 rotate_left
 · cases hc
 rename_i az has
 split at hc
 rotate_left
 · cases hc
 rename_i v0 h1 hr
 split at hc
 rotate_left
 · cases hc
 rename_i hfl;simp only[Bool.and_eq_true]at hfl;obtain⟨e1,e2⟩:=hrec.opn false g _ _ _ _ hr;have hk:=uy (ρ':=zO) hS (F':=fun b=>b<w.heap.size) (fun b hb=>hb) args hu has;refine⟨e1,(e2 (own fun b=>w.heap.size≤b) w (fun b=>b<w.heap.size) zO us ⟨hB.size,fun b hb=>Nat.lt_of_lt_of_le hb hB.size,hB.heap⟩ (VX fun b hb=>hb) (OkC.own _ fun b hb=>hb) hk).mono ?_⟩
 rintro e w' ⟨u,F',ρ',rfl,h2,h3,h4,h5⟩
 obtain⟨φ,hφ⟩:=hS.own;have hsub:∀ b,(own fun b=>w.heap.size≤b) b→(vt Ow w (y8 ρ []) (wz [] h) (pz [] φ)) b:=fun b hb=>⟨hO b hb,.inl hb⟩
 have hsup:∀ b,(vt Ow w (y8 ρ []) (wz [] h) (pz [] φ)) b→w.heap.size≤b:=fun b hb=>by
  obtain⟨_,hb|⟨i,bl,L,hi,_⟩|⟨r,i,j,k,hk,_⟩⟩:=hb
  · exact hb
  · simp[wz]at hi
  · simp at hk
 have hS1:=Tw (F:=F) h3 hfl.2 (n:=w.heap.size) hS.fsz (fun b hb=>hb) hsub h4.size;have hu1:RV w' F ρ' u v0:=Zy h2 hfl.1;have hN:Nxt (vt Ow w (y8 ρ []) (wz [] h) (pz [] φ)) w F zO w' F zO :=
  ⟨h4.os,h4.tape,h4.output,h4.size,fun b hb hno=>h4.keep b hb (Nat.not_le.2 hb),fun b hb=>h4.agree b (hS.fsz b hb),fun b hb=>hb,fun b hb=>.inl hb,Ext.refl _,fun _ _=>rfl⟩
 obtain⟨ρ2,k1,k2,k3⟩:=iE (N:=none) (ids:=[]) (by simp) hS hφ (fun r hr=>absurd hr (hz r)) hc hu1 hS1 hN (fun r l hr=>by simp at hr);exact⟨u,F,ρ2,rfl,k1,k2,k3⟩
theorem QU (hS:St w F ρ Ow h)(hO:OkC Ow w){rec:Rec}{W0:World}(hB:vy W0 w F)(hrec:wi P W0 rec){g:Nat}{args:List V}{v:V}{h':Heap}(hc:fq rec g args h=some (v,h')){us:Array Value}(hu:RVs w F ρ us.toList args) :
 (∃ fn, P.funcs[g]? = some fn ∧ (fn.name == "runtime.NumGoroutine") = false ∧ fn.body.isNone = false) ∧
 Calls P g us w fun e w'=>∃ u F' ρ',e=.returned u∧RV w' F' ρ' u v∧St w' F' ρ' Ow h'∧Nxt Ow w F ρ w' F' ρ':=by
 unfold fq at hc
 split at hc
 rotate_left
 · cases hc
 rename_i v0 h1 hr
 cases hc;obtain⟨e1,e2⟩:=hrec.opn false g _ _ _ _ hr;refine⟨e1,(e2 Ow w F ρ us hB hS hO hu).mono ?_⟩
 rintro e w' ⟨u,F',ρ',rfl,h2,h3,h4,h5⟩
 refine⟨u,F',ρ',rfl,h2,h3,⟨h4.os,h4.tape,h4.output,h4.size,h4.keep,h4.agree,h4.grow,h4.new,fun r l hl=>?_,fun r hr=>absurd hr (hO.z r)⟩⟩;rcases Nat.lt_or_ge r h.length with hlt|hge
 · exact h5 r l hlt hl
 · rw[hS.out r hge]at hl;cases hl
theorem Qb {pol : Pol} {rec : Rec} {W0 : World} (hB : vy W0 w F) (hrec : wi P W0 rec) {f : Nat} {o : Oper} {e : Env} {v : V} {h' : Heap} (hev : yS P pol rec f Ow.N o e h = some (v, h')) (hS : St w F ρ Ow h) (hO : OkO Ow w ρ h) (hz : ∀ r, Ow.z r → r < h.length) (hs : ((∀ r, ¬ Ow.z r) ∧ Ow.N = none) ∨ qj pol f o = true) {a : Act} (he : RE w F ρ a e)
 {K:Act→World→Prop} {Q:Exit→Act→World→Prop} (hK:Wi Ow w F ρ v h' fun u w'=>K (a.put o.dst u) w'):o.wp P a w K Q:=by
 obtain⟨dst,op,ty,pos,after,guard⟩:=o
 cases op with
 | buildSlice t len parts =>
  simp only[yS]at hev
  split at hev
  · rename_i el hel
    split at hev
    · cases hev
    · rename_i hc;simp only[not_or,Bool.not_eq_true,Option.isNone_eq_false_iff]at hc;obtain⟨c1,c2,c3,c4,_⟩:=hc
      split at hev
      · rename_i css hf
        cases hev;obtain⟨zs,hz⟩:=Option.isSome_iff_exists.1 c4;have hp:=o8 (P:=P) he (fun _=>el) parts.toList;have hl:(xD P e (fun _=>el) parts.toList).length=len:=by
         have:=zP hp;simp at this;simp only[ne_eq,Decidable.not_not]at c3;omega
        have:=lE (ps:=parts.map fun (i,x)=>(i,a.eval x)) hS hO hel (by simpa using hp) c1 (by rw[hl];exact c2) hf hz;rw[hl]at this;exact xO rfl this hK
      · cases hev
  · cases hev
 | makeSlice t l c =>
  have hC:True→OkC Ow w:=fun _=>by
   rcases hs with hs|hs
   · exact⟨hO.blk,hs.1,hs.2⟩
   · simp[qj,ym,isB,xI,oL]at hs
  simp only[yS]at hev
  split at hev
  · rename_i el k n k' m hel hl hc
    split at hev
    · rename_i zs hz'
      split at hev
      · cases hev
      · rename_i hcond;simp only[not_or,ne_eq,Decidable.not_not,gt_iff_lt,Nat.not_lt]at hcond;obtain⟨c1,c2,c3,c4,c5,c6⟩:=hcond
        cases hev;have hlv:=yO (P:=P) he 0 l;have hcv:=yO (P:=P) he 0 c;rw[hl]at hlv;rw[hc]at hcv;subst c3;have e1:=tw hlv;have e2:=tw hcv;obtain⟨n',rfl⟩:=Int.eq_ofNat_of_zero_le (show 0≤n by omega);simp only[Int.toNat_natCast]at *;refine xO (s:=Instr.makeSlice t (a.eval l) (a.eval c)) rfl ?_ hK;rw[e1,e2];exact WR hS (hC trivial) hel hz' c1 c4 c5
    · cases hev
  · cases hev
 | call c =>
  obtain⟨callee,args,tys⟩:=c
  cases callee with
  | builtin b =>
   simp only[yS]at hev;have hargs:=sB (P:=P) he args.toList tys.toList
   split at hev
   · rename_i s x t u hx htys;rw[hx]at hargs
     cases hau:args.toList with
     | nil=>rw[hau]at hargs;cases hargs
     | cons y ys =>
      rw[hau]at hargs;simp only[List.map_cons]at hargs
      cases hargs with
      | cons h1 h2 =>
      cases ys with
      | nil=>cases h2
      | cons y2 ys =>
      simp only[List.map_cons]at h2
      cases h2 with
      | cons h3 h4 =>
      cases ys with
      | cons=>cases h4
      | nil =>
      have hA:args = #[y,y2]:=by apply Array.ext';simpa using hau
      have hT:tys = #[t,u]:=by apply Array.ext';simpa using htys
      subst hA hT;refine xO (s:=Builtin.append_ #[t,u] ty #[a.eval y,a.eval y2]) ?_ (SX hS ⟨hO.blk,hz⟩ hev h1 h3 ty) hK;simp[execOp,resolve,invoke,builtin]
   · rename_i x t hx htys;rw[hx]at hargs
     cases hau:args.toList with
     | nil=>rw[hau]at hargs;cases hargs
     | cons y ys =>
      rw[hau]at hargs;simp only[List.map_cons]at hargs
      cases hargs with
      | cons h1 h2 =>
      cases ys with
      | cons=>cases h2
      | nil =>
      have hA:args = #[y]:=by apply Array.ext';simpa using hau
      have hT:tys = #[t]:=by apply Array.ext';simpa using htys
      subst hA hT;refine xO (s:=Builtin.clear_ #[t] ty #[a.eval y]) ?_ (Qt hS hev h1 ty) hK;simp[execOp,resolve,invoke,builtin]
   · cases hev
  | value x =>
   have hC:(match pol.pm f (dst.getD 0) with|.pure=>False|_=>True)→OkC Ow w:=fun hp=>by
    rcases hs with hs|hs
    · exact⟨hO.blk,hs.1,hs.2⟩
    · simp only[qj,ym,isB,xI,oL,Bool.or_false]at hs
      split at hs
      · rename_i hq;rw[hq]at hp;cases hp
      · cases hs
   simp only[yS]at hev
   split at hev
   rotate_left
   · cases hev
   rename_i g caps hf;obtain⟨vs,hvs,hcaps⟩:=UD hf (yO (P:=P) he 0 x);have hargs:=sB (P:=P) he args.toList tys.toList;have hall:RVs w F ρ (args.map a.eval++vs).toList (yl P e args.toList tys.toList++caps):=by rw[Array.toList_append,Array.toList_map];exact yY hargs hcaps
   have main : (∃ fn, P.funcs[g]? = some fn ∧ (fn.name == "runtime.NumGoroutine") = false ∧ fn.body.isNone = false) ∧
    Calls P g (args.map a.eval++vs) w fun e w'=>∃ u F' ρ',e=.returned u∧RV w' F' ρ' u v∧St w' F' ρ' Ow h'∧Nxt Ow w F ρ w' F' ρ':=by
    split at hev
    · rename_i hp;have hO:=hC (by rw[hp];trivial);exact QM hS hO.blk hO.z hB hrec hev hall
    · rename_i hp;have hO:=hC (by rw[hp];trivial);exact QU hS hO hB hrec hev hall
    · cases hev
   obtain⟨⟨fn,f1,f2,f3⟩,hcall⟩:=main;unfold Oper.wp;have hex:(execOp a.eval ⟨dst,.call ⟨.value x,args,tys⟩,ty,pos,after,guard⟩).run P w=.ok (.enter g (args.map a.eval++vs)) w:=by
    simp only[execOp,resolve,hvs,Deferred.ofValue,Sem.run_bind,Sem.run_pure,Result.andThen_ok,invoke,Array.empty_append];exact bp f1 f2 f3
   rw[hex,Oper.upon_enter];refine hcall.mono ?_
   rintro e' w' ⟨u,F',ρ',rfl,k1,k2,k3⟩
   exact hK w' F' ρ' u k1 k2 k3
  | invoke r m=>simp[yS]at hev
 | _=>simp[yS]at hev
theorem Qc {pol:Pol} {rec:Rec} {W0:World} (hB:vy W0 w F) (hrec:wi P W0 rec) {f:Nat} {o:Oper} {e:Env} {v:V} {h':Heap} (hev:we P pol rec f Ow.N o e h=some (v,h')) (hS:St w F ρ Ow h) (hO:OkO Ow w ρ h) (hz:∀ r,Ow.z r→r<h.length) (hs:((∀ r,¬ Ow.z r)∧Ow.N=none)∨qj pol f o=true) {a:Act} (he:RE w F ρ a e)
 {K:Act→World→Prop} {Q:Exit→Act→World→Prop} (hK:Wi Ow w F ρ v h' fun u w'=>K (a.put o.dst u) w'):o.wp P a w K Q:=by
 unfold we at hev
 split at hev
 · split at hev
   · rename_i r hr
     cases hev;exact Qb hB hrec hr hS hO hz hs he hK
   · unfold bare at hev
     split at hev
     · exact T0 hB hrec hev hS hO hz he hK
     · cases hev
 · exact T0 hB hrec hev hS hO hz he hK
end Go.Proofs.YtefkoljdebekdaaGreatDoor.E
/- The evaluator's regions and code are those of the machine. Conditions: those of each lemma. -/
namespace Go.Proofs.YtefkoljdebekdaaGreatDoor.E
variable {P:Program} {w:World} {F:Nat→Prop} {ρ:y9} {Ow:Own} {h:Heap}
theorem ep {a:Act}{e:Env}(he:RE w F ρ a e){dst:Option Nat}(hd:∀ d,dst=some d→d<a.tmps.size){u:Value}{v:V}(hu:RV w F ρ u v):RE w F ρ (a.put dst u) (put e dst v):=by
 intro t
 cases dst with
 | none=>exact he t
 | some d =>
  have hd':=hd d rfl;simp only[Act.put,put,upd,Array.getD_eq_getD_getElem?]
  by_cases ht:t=d
  · subst ht;simp[hd',hu]
  · have:=he t;simp only[Array.getD_eq_getD_getElem?]at this;simp[ht,Array.getElem?_setIfInBounds_ne (Ne.symm ht),this]
theorem Nxt.re {w':World}{F':Nat→Prop}{ρ':y9}(hN:Nxt Ow w F ρ w' F' ρ'){a:Act}{e:Env}(he:RE w F ρ a e):RE w' F' ρ' a e:=fun t=>hN.rv (he t)
theorem o6 (a:Act)(dst:Option Nat)(u:Value):(a.put dst u).tmps.size=a.tmps.size∧(a.put dst u).defers=a.defers:=by
 cases dst<;>simp[Act.put]
theorem l9 {ops : Array Oper} {o : Oper} {e : Env} {b : Bool} (hw : want ops o e = some b) {a : Act} (he : RE w F ρ a e) : Region.wanted o (yielded ops a.tmps) = b := by
 unfold want at hw;unfold Region.wanted
 split at hw
 · rename_i hg;cases hw;rw[hg]
 · rename_i j c hg;rw[hg];simp only
   split at hw
   · rename_i d hd;have hr:=he d;simp only[yielded,hd,Option.bind_some]
     split at hw
     · rename_i c' hc;rw[hc]at hr;have:=fB hr
       cases hw;rw[Array.getD_eq_getD_getElem?]at this
       cases ht:a.tmps[d]? with
       | none=>rw[ht]at this;simp[undef]at this
       | some x=>rw[ht]at this;simp at this;subst this;simp
     · rename_i hc;rw[hc]at hr
       cases hw;have hund:a.tmps.getD d undef=undef:=by
        generalize hgx:a.tmps.getD d undef=z at hr
        cases hr;rfl
       rw[Array.getD_eq_getD_getElem?]at hund
       cases ht:a.tmps[d]? with
       | none=>simp
       | some x=>rw[ht]at hund;simp[undef]at hund;subst hund;simp
     · cases hw
   · cases hw
def fh (P:Program)(pol:Pol)(rec:Rec)(f:Nat)(ops:Array Oper):List Nat→Env→Heap→Option (Env×Heap)
 | [],e,h=>some (e,h)
 | i :: rest, e, h => match ops[i]? with
  | some o=>match w5 P pol rec f none ops o e h with
   | some (e',h')=>fh P pol rec f ops rest e' h'
   | none=>none
  | none=>none
theorem bm {pol:Pol}{rec:Rec}{f:Nat}{ops:Array Oper}:∀ (l:List Nat) (os:List Oper) (e:Env) (h:Heap),l.map (ops[·]?)=os.map some→si P pol rec f ops os e h=fh P pol rec f ops l e h
 | [],[],e,h,_=>rfl
 | [],_::_,e,h,hl=>by simp at hl
 | _::_,[],e,h,hl=>by simp at hl
 | i::l,o::os,e,h,hl=>by
  simp only[List.map_cons,List.cons.injEq]at hl;simp only[si,fh,hl.1]
  cases w5 P pol rec f none ops o e h with
  | none=>rfl
  | some x=>exact bm l os x.1 x.2 hl.2
theorem nr (ops:Array Oper):(List.range ops.size).map (ops[·]?)=ops.toList.map some:=by
 apply List.ext_getElem?;intro i
 by_cases hi:i<ops.size
 · simp[hi]
 · simp[hi]
def oZ (n:Nat)(ops:Array Oper):Bool:=ops.toList.all fun o=>match o.dst with|some d=>decide (d<n)|none=>true
theorem gq {n:Nat}{ops:Array Oper}(hd:oZ n ops=true){i:Nat}{o:Oper}(ho:ops[i]? = some o):∀ d,o.dst=some d→d<n:=fun d hdst=>by
 have:=List.all_eq_true.1 hd o (by rw[Array.mem_toList_iff];exact Array.mem_of_getElem? ho);rw[hdst]at this;simpa using this
def pA (Ow:Own)(w:World)(F:Nat→Prop)(ρ:y9)(n:Nat)(e':Env)(h':Heap)(K:Act→World→Prop):Prop :=
 ∀ a' w' F' ρ',RE w' F' ρ' a' e'→St w' F' ρ' Ow h'→Nxt Ow w F ρ w' F' ρ'→a'.tmps.size=n→a'.defers=[]→K a' w'
theorem pA.step {w1:World}{F1:Nat→Prop}{ρ1:y9}{n:Nat}{e':Env}{h':Heap}{K:Act→World→Prop}(hK:pA Ow w F ρ n e' h' K)(hN:Nxt Ow w F ρ w1 F1 ρ1):pA Ow w1 F1 ρ1 n e' h' K :=
 fun a' w' F' ρ' h1 h2 h3 h4 h5=>hK a' w' F' ρ' h1 h2 (hN.trans h3) h4 h5
theorem Qd {pol:Pol} {rec:Rec} {W0:World} (hB:vy W0 w F) (hrec:wi P W0 rec) {f:Nat} {ops:Array Oper} {i:Nat} {o:Oper} (ho:ops[i]? = some o) {e e':Env} {h':Heap} (hev:uC P pol rec f Ow.N ops o e h=some (e',h')) (hS:St w F ρ Ow h) (hO:OkO Ow w ρ h) (hz:∀ r,Ow.z r→r<h.length)
 {a:Act} (he:RE w F ρ a e) {n:Nat} (hn:a.tmps.size=n) (hd:a.defers=[]) (hdst:oZ n ops=true) {Q:Exit→Act→World→Prop} {K:Act→World→Prop} (hK:pA Ow w F ρ n e' h' K):wpOp P ops Q i K a w:=by
 have hdo:∀ d,o.dst=some d→d<a.tmps.size:=fun d hx=>by rw[hn];exact gq hdst ho d hx
 unfold uC at hev;unfold wpOp;simp only[ho]
 split at hev
 · rename_i hw;rw[l9 hw he];simp only[if_true]
   split at hev
   · rename_i v h1 hop
     cases hev;left;refine T0 hB hrec hop hS hO hz he fun w' F' ρ' u h1 h2 h3=>?_
     obtain⟨s1,s2⟩:=o6 a o.dst u;exact hK _ w' F' ρ' (ep (h3.re he) hdo h1) h2 h3 (s1.trans hn) (s2.trans hd)
   · cases hev
 · rename_i hw
   cases hev;rw[l9 hw he];simp only[Bool.false_eq_true,if_false];obtain⟨s1,s2⟩:=o6 a o.dst undef;exact hK _ w F ρ (ep he hdo .und) hS (Nxt.refl _ _ _ _) (s1.trans hn) (s2.trans hd)
 · cases hev
theorem ZJ {pol:Pol} {rec:Rec} {W0:World} (hB:vy W0 w F) (hrec:wi P W0 rec) {f:Nat} {ops:Array Oper} {i:Nat} {o:Oper} (ho:ops[i]? = some o) {e e':Env} {h':Heap} (hev:w5 P pol rec f Ow.N ops o e h=some (e',h')) (hS:St w F ρ Ow h) (hO:OkO Ow w ρ h) (hz:∀ r,Ow.z r→r<h.length) (hs:((∀ r,¬ Ow.z r)∧Ow.N=none)∨qj pol f o=true)
 {a:Act} (he:RE w F ρ a e) {n:Nat} (hn:a.tmps.size=n) (hd:a.defers=[]) (hdst:oZ n ops=true) {Q:Exit→Act→World→Prop} {K:Act→World→Prop} (hK:pA Ow w F ρ n e' h' K):wpOp P ops Q i K a w:=by
 have hdo:∀ d,o.dst=some d→d<a.tmps.size:=fun d hx=>by rw[hn];exact gq hdst ho d hx
 unfold w5 at hev;unfold wpOp;simp only[ho]
 split at hev
 · rename_i hw;rw[l9 hw he];simp only[if_true]
   split at hev
   · rename_i v h1 hop
     cases hev;left;refine Qc hB hrec hop hS hO hz hs he fun w' F' ρ' u h1 h2 h3=>?_
     obtain⟨s1,s2⟩:=o6 a o.dst u;exact hK _ w' F' ρ' (ep (h3.re he) hdo h1) h2 h3 (s1.trans hn) (s2.trans hd)
   · cases hev
 · rename_i hw
   cases hev;rw[l9 hw he];simp only[Bool.false_eq_true,if_false];obtain⟨s1,s2⟩:=o6 a o.dst undef;exact hK _ w F ρ (ep he hdo .und) hS (Nxt.refl _ _ _ _) (s1.trans hn) (s2.trans hd)
 · cases hev
theorem UA {W0:World}{pol:Pol}{rec:Rec}(hrec:wi P W0 rec){f:Nat}{ops:Array Oper}{n:Nat}(hdst:oZ n ops=true){Q:Exit→Act→World→Prop}:∀ (l:List Nat) {w:World} {F:Nat→Prop} {ρ:y9} {h:Heap} {e e':Env} {h':Heap} {a:Act},
 fh P pol rec f ops l e h=some (e',h')→vy W0 w F→St w F ρ Ow h→OkC Ow w→RE w F ρ a e→a.tmps.size=n→a.defers=[]→pA Ow w F ρ n e' h' (Q .normal)→wpOps P ops Q l a w
 | [],w,F,ρ,h,e,e',h',a,hev,hB,hS,hO,he,hn,hd,hK=>by
  simp only[fh]at hev;cases hev;exact hK a w F ρ he hS (Nxt.refl _ _ _ _) hn hd
 | i::rest,w,F,ρ,h,e,e',h',a,hev,hB,hS,hO,he,hn,hd,hK=>by
  simp only[fh]at hev
  split at hev
  · rename_i o ho
    split at hev
    · rename_i e1 h1 h1ev;rw[wpOps_cons];refine ZJ hB hrec ho (by rw[hO.n];exact h1ev) hS hO.op (fun r hr=>absurd hr (hO.z r)) (.inl ⟨hO.z,hO.n⟩) he hn hd hdst fun a' w' F' ρ' k1 k2 k3 k4 k5=>?_
      exact UA hrec hdst rest hev (hB.next k3) k2 (hO.mono k3.size) k1 k4 k5 (hK.step k3)
    · cases hev
  · cases hev
def mg (P:Program)(c:Code)(Q:Exit→Act→World→Prop)(a:Act)(w:World):Prop :=
 ∀ (b:Frame) (k:List Item) (cs:List Frame),∃ e a' w',Q e a' w'∧Arrives P (lone (b.at a (.inLoop c::k)) cs w) b k cs e a' w'
theorem iJ {c:Code}{Q:Exit→Act→World→Prop}{a:Act}{w:World}(hb:c.wp P (Exit.then (mg P c Q) Q) a w)(b:Frame)(k:List Item)(cs:List Frame) :
 ∃ e a' w',Q e a' w'∧Arrives P (lone (b.at a (.code c::.inLoop c::k)) cs w) b k cs e a' w':=by
 obtain⟨e,a1,w1,hq,harr⟩:=hb b (.inLoop c::k) cs
 cases e with
 | normal =>
  obtain⟨e2,a2,w2,hq2,harr2⟩:=hq b k cs;exact⟨e2,a2,w2,hq2,.of_steps harr harr2⟩
 | exit id=>exact⟨.exit id,a1,w1,hq,fun k' hk=>harr k' (by simpa [exitTo] using hk)⟩
 | goto l=>exact⟨.goto l,a1,w1,hq,fun k' hk=>harr k' (by simpa [gotoIn] using hk)⟩
 | ret=>exact⟨.ret,a1,w1,hq,harr⟩
 | panic chain=>exact⟨.panic chain,a1,w1,hq,harr⟩
 | outgrown=>exact⟨.outgrown,a1,w1,hq,harr⟩
theorem S0 {c:Code}{Q:Exit→Act→World→Prop}{a:Act}{w:World}(hb:c.wp P (Exit.then (mg P c Q) Q) a w):(Code.loop c).wp P Q a w:=fun b k cs=>by
 obtain⟨e,a',w',hq,harr⟩:=iJ hb b k cs;exact⟨e,a',w',hq,.of_steps (.one step_loop) harr⟩
theorem au {c:Code}{Q:Exit→Act→World→Prop}{a:Act}{w:World}(hb:c.wp P (Exit.then (mg P c Q) Q) a w):mg P c Q a w:=fun b k cs=>by
 obtain⟨e,a',w',hq,harr⟩:=iJ hb b k cs;exact⟨e,a',w',hq,.of_steps (.one step_inLoop) harr⟩
def tU (a:Act)(ss:List Nat):List Value:=ss.map fun t=>a.tmps.getD t undef
theorem uX {a:Act}{e:Env}(he:RE w F ρ a e):∀ ss:List Nat,RVs w F ρ (tU a ss) (ss.map e)
 | []=>.nil
 | s::ss=>.cons (he s) (uX he ss)
theorem tX {a:Act}:∀ (ss:List Nat) (vals:List V),RVs w F ρ (tU a ss) vals→RE w F ρ a (zb ss vals)
 | [],_,_=>fun t=>by simp only[zb];exact .bad _
 | s::ss,[],hv=>by cases hv
 | s :: ss, v :: vals, hv => by
  cases hv with
  | cons h1 h2 =>
   intro t;simp only[zb,upd]
   split
   · rename_i e;subst e;exact h1
   · exact tX ss vals h2 t
theorem qy:∀ (n m p:Nat),p≤n→p≤m→rD n p=rD m p
 | 0,0,p,_,_=>rfl
 | 0, m + 1, p, h1, h2 => by have : p = 0 := by omega
                             subst this;simp[rD]
 | n + 1, 0, p, h1, h2 => by have : p = 0 := by omega
                             subst this;simp[rD]
 | n+1,m+1,p,h1,h2=>by
  simp only[rD]
  split
  · rfl
  · rw[qy n m (p / 2) (by omega) (by omega)]
theorem uq {p:Nat}(hp:1≤p)(d:Nat)(hd:d≤1):turns (2*p+d)=turns p++[d==1]:=by
 unfold turns;obtain⟨n,hn⟩:∃ n,2*p+d=n+1:=⟨2*p+d - 1,by omega⟩;rw[hn];simp only[rD];rw[if_neg (by omega),← hn,show (2*p+d) / 2=p by omega,show (2*p+d) % 2=d by omega,qy n p p (by omega) (Nat.le_refl _)]
theorem yX:∀ (ds:List Bool) (c c':Code) (d:Bool),yZ c ds=some c'→yZ c (ds++[d])=yZ c' [d]
 | [],c,c',d,h=>by simp only[yZ]at h;cases h;rfl
 | x::ds,c,c',d,h=>by
  cases c with
  | seq a b=>simp only[yZ,List.cons_append]at h ⊢;exact yX ds _ _ d h
  | cond o a b=>simp only[yZ,List.cons_append]at h ⊢;exact yX ds _ _ d h
  | block id b=>simp only[yZ,List.cons_append]at h ⊢;exact yX ds _ _ d h
  | loop b=>simp only[yZ,List.cons_append]at h ⊢;exact yX ds _ _ d h
  | _=>simp[yZ]at h
end Go.Proofs.YtefkoljdebekdaaGreatDoor.E
/- Regions whose order is open: every order comes to the same. Conditions: those of each lemma. -/
namespace Go.Proofs.YtefkoljdebekdaaGreatDoor.E
variable {P:Program} {w:World} {F:Nat→Prop} {ρ:y9} {Ow:Own} {h:Heap} {pol:Pol} {rec:Rec} {f:Nat} {N:Option Nat} {ops:Array Oper}
def wM (ops:Array Oper)(o:Oper)(e e':Env):Prop:=∀ t∈o.looksAt ops,e t=e' t
theorem wM.opv {o:Oper}{e e':Env}(hs:wM ops o e e')(ty:TypeId){x:Operand}(hx:x∈o.op.operands):opv P e ty x=opv P e' ty x:=by
 cases x with
 | tmp t =>
  refine hs t ?_;simp only[Oper.looksAt,List.mem_append,List.mem_filterMap];exact .inl ⟨.tmp t,by simpa using hx,rfl⟩
 | _=>rfl
theorem wU {e e':Env}:∀ (xs:List Operand) (ts:List TypeId),(∀ x∈xs,∀ ty,opv P e ty x=opv P e' ty x)→yl P e xs ts=yl P e' xs ts
 | [],_,_=>rfl
 | x::xs,[],h=>by simp only[yl];rw[h x (by simp),wU xs [] fun y hy=>h y (by simp[hy])]
 | x::xs,t::ts,h=>by simp only[yl];rw[h x (by simp),wU xs ts fun y hy=>h y (by simp[hy])]
theorem pd {e e':Env}(x:Option Operand)(h:∀ y,x=some y→opv P e 0 y=opv P e' 0 y):qL P e x=qL P e' x:=by
 cases x with
 | none=>rfl
 | some y=>simp only[qL,h y rfl]
theorem qS {o:Oper}{e e':Env}(hs:wM ops o e e'):want ops o e=want ops o e':=by
 unfold want
 split
 · rfl
 · rename_i j b hg
   split
   · rename_i d hd;have:d∈o.looksAt ops:=by
      unfold Oper.looksAt;rw[hg];simp only[hd,List.mem_append];exact .inr (by simp)
     rw[hs d this]
   · rfl
theorem uf {e e':Env}(ty:Nat→TypeId):∀ (ps:List (Nat×Operand)),(∀ x∈ps.map (·.2),∀ t,opv P e t x=opv P e' t x)→xD P e ty ps=xD P e' ty ps
 | [],_=>rfl
 | (i,x)::r,h=>by simp only[xD];rw[h x (by simp),uf ty r fun y hy=>h y (by simp at hy ⊢;exact .inr hy)]
theorem qU {o:Oper}(hs:soft pol f o=true):ym pol f o=true∨xr pol f o=true:=by simpa [soft] using hs
theorem pj {o:Oper}(hn:soft pol f o=true){e e':Env}(hs:wM ops o e e'):zU P pol rec f N o e h=zU P pol rec f N o e' h:=by
 have ho:∀ {x:Operand},x∈o.op.operands→∀ ty,opv P e ty x=opv P e' ty x:=fun hx ty=>hs.opv ty hx
 have hn':=qU hn;obtain⟨dst,op,ty,pos,after,guard⟩:=o
 cases op with
 | move x=>simp only[zU,ho (x:=x) (by simp[Op.operands])]
 | assign x=>simp only[zU,ho (x:=x) (by simp[Op.operands])]
 | pick c a b=>simp only[zU,ho (x:=c) (by simp[Op.operands]),ho (x:=a) (by simp[Op.operands]),ho (x:=b) (by simp[Op.operands])]
 | alloc t=>rfl
 | box t x=>simp only[zU,ho (x:=x) (by simp[Op.operands])]
 | buildSlice t len parts =>
  simp only[zU]
  cases yo P t with
  | none=>rfl
  | some el=>simp only;rw[uf _ parts.toList fun x hx t=>ho (by simp only[Op.operands,List.mem_toArray];exact hx) t]
 | build t parts =>
  simp only[zU];rw[uf _ parts.toList fun x hx t=>ho (by simp only[Op.operands,List.mem_toArray];exact hx) t]
 | makeSlice t l c=>simp only[zU,ho (x:=l) (by simp[Op.operands]),ho (x:=c) (by simp[Op.operands])]
 | load t x=>simp only[zU,ho (x:=x) (by simp[Op.operands])]
 | binOp op t x y u=>simp only[zU,ho (x:=x) (by simp[Op.operands]),ho (x:=y) (by simp[Op.operands])]
 | unOp op t x=>simp only[zU,ho (x:=x) (by simp[Op.operands])]
 | convert s d x=>simp only[zU,ho (x:=x) (by simp[Op.operands])]
 | slice t x lo hi mx =>
  simp only[zU,ho (x:=x) (by simp[Op.operands])];rw[pd lo fun y hy=>ho (by simp[Op.operands,hy]) 0,pd hi fun y hy=>ho (by simp[Op.operands,hy]) 0,pd mx fun y hy=>ho (by simp[Op.operands,hy]) 0]
 | nilCheck x=>simp only[zU,ho (x:=x) (by simp[Op.operands])]
 | fieldAddr s x i=>simp only[zU,ho (x:=x) (by simp[Op.operands])]
 | field s x i=>simp only[zU,ho (x:=x) (by simp[Op.operands])]
 | indexAddr t x i=>simp only[zU,ho (x:=x) (by simp[Op.operands]),ho (x:=i) (by simp[Op.operands])]
 | index t x i=>simp only[zU,ho (x:=x) (by simp[Op.operands]),ho (x:=i) (by simp[Op.operands])]
 | extract x i=>simp only[zU,ho (x:=x) (by simp[Op.operands])]
 | call c =>
  obtain⟨callee,args,tys⟩:=c
  cases callee with
  | builtin b =>
   simp only[zU];rw[wU args.toList tys.toList fun y hy ty=>ho (by simpa [Op.operands,Call.operands] using hy) ty]
  | value x =>
   simp only[zU];rw[wU args.toList tys.toList fun y hy ty=>ho (by simp[Op.operands,Call.operands];right;simpa using hy) ty,ho (x:=x) (by simp[Op.operands,Call.operands])]
  | invoke r m=>simp[ym,xr]at hn'
 | _=>simp[ym,xr]at hn'
theorem wZ {e e':Env}:∀ (xs:List Operand),(∀ t,.tmp t∈xs→e t=e' t)→za e xs=za e' xs
 | [],_=>rfl
 | .tmp t::r,h=>by simp only[za];rw[h t (by simp),wZ r fun t ht=>h t (by simp[ht])]
 | .const _::r,h=>by simp only[za];exact wZ r fun t ht=>h t (by simp[ht])
 | .func _::r,h=>by simp only[za];exact wZ r fun t ht=>h t (by simp[ht])
 | .global _::r,h=>by simp only[za];exact wZ r fun t ht=>h t (by simp[ht])
theorem xb {o:Oper}{e e':Env}(hs:wM ops o e e'):yb N o e h=yb N o e' h:=by
 unfold yb;rw[wZ _ fun t ht=>hs t ?_];simp only[Oper.looksAt,List.mem_append,List.mem_filterMap];exact .inl ⟨.tmp t,ht,rfl⟩
structure xV (fp:List Nat) (h h1 h2 h3:Heap):Prop where
 l1:h1.length=h.length
 l3:h3.length=h2.length
 on:∀ r∈fp,h3[r]? = h1[r]?
 off1:∀ r:Nat,r∉fp→h1[r]? = h[r]?
 off3:∀ r:Nat,r∉fp→h3[r]? = h2[r]?
theorem xV.same {fp:List Nat}{h2:Heap}(ha:∀ r∈fp,h2[r]? = h[r]?):xV fp h h h2 h2:=⟨rfl,rfl,ha,fun _ _=>rfl,fun _ _=>rfl⟩
theorem xV.mono {A B:List Nat}{h1 h2 h3:Heap}(hl:xV A h h1 h2 h3)(hAB:∀ r∈A,r∈B)(ha:∀ r∈B,h2[r]? = h[r]?):xV B h h1 h2 h3:=by
 refine⟨hl.l1,hl.l3,fun r hr=>?_,fun r hr=>hl.off1 r fun x=>hr (hAB r x),fun r hr=>hl.off3 r fun x=>hr (hAB r x)⟩
 by_cases hA:r∈A
 · exact hl.on r hA
 · rw[hl.off3 r hA,hl.off1 r hA];exact ha r hr
theorem xV.comp {A:List Nat}{h1 h2 h3 h1' h3':Heap}(hl:xV A h h1 h2 h3)(hk:xV A h1 h1' h3 h3'):xV A h h1' h2 h3' :=
 ⟨hk.l1.trans hl.l1,hk.l3.trans hl.l3,hk.on,fun r hr=>(hk.off1 r hr).trans (hl.off1 r hr),fun r hr=>(hk.off3 r hr).trans (hl.off3 r hr)⟩
theorem xV.set {fp:List Nat}{h2:Heap}{r:Nat}(hr:r∈fp)(hl:h2.length=h.length)(ha:∀ r∈fp,h2[r]? = h[r]?)(b:Blk):xV fp h (h.set r b) h2 (h2.set r b):=by
 refine⟨by simp,by simp,fun k hk=>?_,fun k hk=>?_,fun k hk=>?_⟩
 · rw[List.getElem?_set,List.getElem?_set,hl,ha k hk]
 · exact List.getElem?_set_ne (fun e:r=k=>hk (e▸hr))
 · exact List.getElem?_set_ne (fun e:r=k=>hk (e▸hr))
mutual
theorem V2 {fp:List Nat}:∀ (v:V) {h h1 h2:Heap} {v':V},h2.length=h.length→(∀ r∈refs v,r∈fp)→(∀ r∈fp,h2[r]? = h[r]?)→yP h v=some (v',h1)→∃ h3,yP h2 v=some (v',h3)∧xV fp h h1 h2 h3
 | .sl r off len cap,h,h1,h2,v',hl,hf,ha,hg=>by
  have hr:r∈fp:=hf r (by simp[refs]);simp only[yP]at hg ⊢;rw[ha r hr]
  split at hg
  · rename_i sz es hb
    cases hg;exact⟨_,rfl,xV.set hr hl ha _⟩
  · rename_i sz es hb
    cases hg;exact⟨_,rfl,xV.same ha⟩
  · rename_i sz es hb
    split at hg
    · rename_i xs hx
      cases hg;exact⟨_,rfl,xV.set hr hl ha _⟩
    · cases hg
  · cases hg
 | .nil sz,h,h1,h2,v',hl,hf,ha,hg=>by simp only[yP]at hg ⊢;cases hg;exact⟨_,rfl,xV.same ha⟩
 | .agg cs,h,h1,h2,v',hl,hf,ha,hg=>by
  simp only[yP]at hg ⊢
  split at hg
  · rename_i cs' h1' hc
    cases hg;obtain⟨h3,e1,e2⟩:=rT cs hl (fun r hr=>hf r (by simpa [refs] using hr)) ha hc;exact⟨h3,by rw[e1],e2⟩
  · cases hg
 | .tup cs,h,h1,h2,v',hl,hf,ha,hg=>by
  simp only[yP]at hg ⊢
  split at hg
  · rename_i cs' h1' hc
    cases hg;obtain⟨h3,e1,e2⟩:=rT cs hl (fun r hr=>hf r (by simpa [refs] using hr)) ha hc;exact⟨h3,by rw[e1],e2⟩
  · cases hg
 | .t x,h,h1,h2,v',hl,hf,ha,hg=>by simp only[yP]at hg ⊢;cases hg;exact⟨_,rfl,xV.same ha⟩
 | .fn f cs,h,h1,h2,v',hl,hf,ha,hg=>by
  simp only[yP]at hg ⊢
  split at hg
  · cases hg;exact⟨_,rfl,xV.same ha⟩
  · cases hg
 | .ptr r i j,h,h1,h2,v',hl,hf,ha,hg=>by simp[yP]at hg
 | .und,h,h1,h2,v',hl,hf,ha,hg=>by simp[yP]at hg
 | .bad,h,h1,h2,v',hl,hf,ha,hg=>by simp[yP]at hg
theorem rT {fp:List Nat}:∀ (vs:List V) {h h1 h2:Heap} {vs':List V},h2.length=h.length→(∀ r∈refs.refss vs,r∈fp)→(∀ r∈fp,h2[r]? = h[r]?)→yP.gives h vs=some (vs',h1)→∃ h3,yP.gives h2 vs=some (vs',h3)∧xV fp h h1 h2 h3
 | [],h,h1,h2,vs',hl,hf,ha,hg=>by simp only[yP.gives]at hg ⊢;cases hg;exact⟨_,rfl,xV.same ha⟩
 | v::vs,h,h1,h2,vs',hl,hf,ha,hg=>by
  simp only[yP.gives]at hg ⊢
  split at hg
  · rename_i x ha1 e1
    split at hg
    · rename_i xs hb1 e2
      cases hg;obtain⟨h3,k1,k2⟩:=V2 v hl (fun r hr=>hf r (by simp[refs.refss,hr])) ha e1;obtain⟨h4,k3,k4⟩:=rT vs (by rw[k2.l3,k2.l1,hl]) (fun r hr=>hf r (by simp[refs.refss,hr])) k2.on e2;exact⟨h4,by rw[k1];simp only;rw[k3],k2.comp k4⟩
    · cases hg
  · cases hg
end
theorem XS {fp:List Nat}{vs:List V}{h1 h2:Heap}{xs:List T}(hl:h2.length=h.length)(hf:∀ r∈refs.refss vs,r∈fp)(ha:∀ r∈fp,h2[r]? = h[r]?)(hg:qn h vs=some (xs,h1)):∃ h3,qn h2 vs=some (xs,h3)∧xV fp h h1 h2 h3:=by
 unfold qn at hg ⊢
 split at hg
 · rename_i ys h1' e1;obtain⟨h3,k1,k2⟩:=rT vs hl hf ha e1
   split at hg
   · rename_i ts ht
     cases hg;exact⟨h3,by rw[k1];simp only;rw[ht],k2⟩
   · cases hg
 · cases hg
theorem ue:∀ (xs ys:List V),refs.refss (xs++ys)=refs.refss xs++refs.refss ys
 | [],ys=>by simp[refs.refss]
 | x::xs,ys=>by simp[refs.refss,ue xs ys]
theorem pg {fp:List Nat}:∀ {css:List (List V)} {h h1 h2:Heap} {es:List (List T)},h2.length=h.length→(∀ r∈refs.refss css.flatten,r∈fp)→(∀ r∈fp,h2[r]? = h[r]?)→w4 h css=some (es,h1)→∃ h3,w4 h2 css=some (es,h3)∧xV fp h h1 h2 h3
 | [],h,h1,h2,es,hl,hf,ha,hg=>by simp only[w4]at hg ⊢;cases hg;exact⟨_,rfl,xV.same ha⟩
 | c::css,h,h1,h2,es,hl,hf,ha,hg=>by
  simp only[w4]at hg ⊢;simp only[List.flatten_cons,ue,List.mem_append]at hf
  split at hg
  · rename_i x h1' e1
    split at hg
    · rename_i xs h1'' e2
      cases hg;obtain⟨h3,k1,k2⟩:=XS hl (fun r hr=>hf r (.inl hr)) ha e1;obtain⟨h4,k3,k4⟩:=pg (by rw[k2.l3,k2.l1,hl]) (fun r hr=>hf r (.inr hr)) k2.on e2;exact⟨h4,by rw[k1];simp only;rw[k3],k2.comp k4⟩
    · cases hg
  · cases hg
theorem lS (ty:TypeId)(v:Value):refs (wJ P ty v)=[]:=by
 unfold wJ
 split<;>try rfl
 split<;>rfl
theorem sa:∀ (vs:List Value) (ts:List TypeId),refs.refss (xE P vs ts)=[]
 | [],ts=>by cases ts<;>rfl
 | v::vs,[]=>by simp[xE,refs.refss,refs,sa vs []]
 | v::vs,t::ts=>by simp[xE,refs.refss,lS,sa vs ts]
theorem tV {e:Env}{ty:TypeId}{x:Operand}{r:Nat}(hr:r∈refs (opv P e ty x)):∃ t,x=.tmp t∧r∈refs (e t):=by
 cases x with
 | tmp t=>exact⟨t,rfl,hr⟩
 | const v =>
  exfalso;simp only[opv]at hr;unfold cst at hr
  split at hr
  · simp[refs,sa]at hr
  · simp[lS]at hr
 | func g=>simp[opv,refs]at hr
 | global g=>simp[opv,refs]at hr
theorem wc {e:Env}{t r:Nat}(hr:r∈refs (e t)):∀ {xs:List Operand},.tmp t∈xs→r∈za e xs
 | .tmp t'::xs,hx=>by
  simp only[za,List.mem_append];rcases List.mem_cons.1 hx with h1|h1
  · cases h1;exact .inl hr
  · exact .inr (wc hr h1)
 | .const _::xs,hx=>by simp only[za];exact wc hr (by simpa using hx)
 | .func _::xs,hx=>by simp only[za];exact wc hr (by simpa using hx)
 | .global _::xs,hx=>by simp only[za];exact wc hr (by simpa using hx)
theorem wv {r:Nat}:∀ (l seen:List Nat),r∈yL seen l↔r∈seen∨r∈l
 | [],seen=>by simp[yL]
 | x::l,seen=>by
  simp only[yL]
  split
  · rename_i hx;rw[wv l seen,List.mem_cons];constructor
    · rintro (h|h)
      · exact .inl h
      · exact .inr (.inr h)
    · rintro (h|h|h)
      · exact .inl h
      · subst h;exact .inl hx
      · exact .inr h
  · rw[wv l (seen++[x])];simp only[List.mem_append,List.mem_cons,List.not_mem_nil,or_false];constructor
    · rintro ((h|h)|h)
      · exact .inl h
      · exact .inr (.inl h)
      · exact .inr (.inr h)
    · rintro (h|h|h)
      · exact .inl (.inl h)
      · exact .inl (.inr h)
      · exact .inr h
theorem rN {r:Nat}(h:Heap)(n:Nat)(ids:List Nat)(hr:r∈ids):r∈reach h n ids:=by
 obtain⟨t,ht⟩:=nq h n ids;rw[ht];simp[hr]
theorem qX (h:Heap):∀ (n:Nat) (A B:List Nat),(∀ r∈A,r∈B)→∀ r∈reach h n A,r∈reach h n B
 | 0,A,B,hAB,r,hr=>hAB r hr
 | n+1,A,B,hAB,r,hr=>by
  simp only[reach]at hr ⊢;refine qX h n _ _ (fun x hx=>?_) r hr;rw[wv]at hx ⊢;rcases hx with hx|hx
  · exact .inl (hAB x hx)
  · simp only[List.mem_flatMap]at hx ⊢;obtain⟨y,h1,h2⟩:=hx;exact .inr ⟨y,hAB y h1,h2⟩
theorem sY {h h2:Heap}:∀ (n:Nat) (ids:List Nat),(∀ r∈reach h n ids,h2[r]? = h[r]?)→reach h2 n ids=reach h n ids
 | 0,ids,ha=>rfl
 | n + 1, ids, ha => by
  have e:ids.flatMap (xz h2)=ids.flatMap (xz h):=by
   have key:∀ l:List Nat,(∀ r∈l,r∈ids)→l.flatMap (xz h2)=l.flatMap (xz h):=fun l=>by
    induction l with
    | nil=>intro _;rfl
    | cons r l ih =>
     intro hl;have e1:xz h2 r=xz h r:=by
      unfold xz;rw[ha r (rN h (n+1) ids (hl r (by simp)))]
     simp only[List.flatMap_cons,e1,ih fun r' hr'=>hl r' (by simp[hr'])]
   exact key ids fun _ h=>h
  simp only[reach]at ha ⊢;rw[e];exact sY n _ ha
theorem an (h:Heap)(n:Nat)(ids:List Nat){r r':Nat}(hr:r∈ids)(hr':r'∈xz h r):r'∈reach h (n+1) ids:=by
 simp only[reach];refine rN h n _ ?_;rw[wv];exact .inr (List.mem_flatMap.2 ⟨r,hr,hr'⟩)
theorem nE {deep:Bool}{ids:List Nat}{r:Nat}(hr:r∈ids):r∈qo deep ids h:=by
 unfold qo
 split
 · exact rN h 3 _ ((wv _ _).2 (.inr hr))
 · exact hr
theorem tZ {o:Oper}{e:Env}{ty:TypeId}{x:Operand}(hx:x∈o.op.operands){r:Nat}(hr:r∈refs (opv P e ty x)):r∈yb N o e h:=by
 obtain⟨t,rfl,h1⟩:=tV hr;unfold yb;exact List.mem_append.2 (.inr (nE (wc h1 (by simpa using hx))))
theorem ov {o:Oper}{e:Env}{h2:Heap}(ha:∀ r∈yb N o e h,h2[r]? = h[r]?):yb N o e h2=yb N o e h:=by
 unfold yb at ha ⊢
 congr 1
 unfold qo at ha ⊢
 split
 · rename_i hd;refine sY 3 _ fun r hr=>ha r ?_
   rw[if_pos hd];exact List.mem_append.2 (.inr hr)
 · rfl
theorem eO (v:V):refs.refss (z7 v)=refs v:=by
 cases v<;>simp[z7,refs.refss,refs]
theorem ph {sz : Nat} : ∀ {n : Nat} {ps : List (Nat × V)} {css : List (List V)}, vk sz n ps = some css → ∀ r ∈ refs.refss css.flatten, ∃ v, v ∈ ps.map (·.2) ∧ r ∈ refs v
 | n,[],css,hf=>by simp only[vk]at hf;cases hf;intro r hr;simp[refs.refss]at hr
 | n, (i, v) :: ps, css, hf => by
  simp only[vk]at hf
  split at hf
  · split at hf
    · rename_i cs hcs
      cases hf;intro r hr;simp only[List.flatten_cons,ue,List.mem_append,eO]at hr;rcases hr with hr|hr
      · exact⟨v,by simp,hr⟩
      · obtain⟨v',h1,h2⟩:=ph hcs r hr;exact⟨v',by simp at h1 ⊢;exact .inr h1,h2⟩
    · cases hf
  · cases hf
theorem qZ {e:Env}{ty:Nat→TypeId}:∀ {ps:List (Nat×Operand)} {v:V},v∈(xD P e ty ps).map (·.2)→∃ x t,x∈ps.map (·.2)∧v=opv P e t x
 | [],v,hv=>by simp[xD]at hv
 | (i,x)::ps,v,hv=>by
  simp only[xD,List.map_cons,List.mem_cons]at hv;rcases hv with rfl|hv
  · exact⟨x,_,by simp,rfl⟩
  · obtain⟨y,t,h1,h2⟩:=qZ hv;exact⟨y,t,by simp at h1 ⊢;exact .inr h1,h2⟩
theorem eS {h2:Heap}{r i j n:Nat}(ha:h2[r]? = h[r]?):uk h2 r i j n=uk h r i j n:=by unfold uk;rw[ha]
theorem WU {h2:Heap}{ty:TypeId}{x:V}(ha:∀ r∈refs x,h2[r]? = h[r]?):load P ty x h2=load P ty x h:=by
 cases x with
 | ptr r i j=>simp only[load,eS (ha r (by simp[refs]))]
 | t y=>cases y<;>rfl
 | _=>rfl
theorem Sp {h2:Heap}{ty:TypeId}{x:V}{lo hi mx:Option V}(ha:∀ r∈refs x,h2[r]? = h[r]?):cut P ty x lo hi mx h2=cut P ty x lo hi mx h:=by
 cases x with
 | sl r off len cap=>simp only[cut,ha r (by simp[refs])]
 | t y=>cases y<;>rfl
 | _=>rfl
theorem eW {h2:Heap}{ty:TypeId}{x i:V}(ha:∀ r∈refs x,h2[r]? = h[r]?):vU P ty x i h2=vU P ty x i h:=by
 cases i with
 | t z =>
  cases z with
  | int k n =>
   cases x with
   | sl r off len cap=>simp only[vU,ha r (by simp[refs])]
   | t y=>cases y<;>rfl
   | _=>rfl
  | _=>rfl
 | _=>rfl
theorem Ve {h2:Heap}{s d:TypeId}{x:V}(ha:∀ r∈refs x,h2[r]? = h[r]?):conv P s d x h2=conv P s d x h:=by
 cases x with
 | sl r off len cap=>simp only[conv,ha r (by simp[refs])]
 | t y=>cases y with
  | list sz es=>rcases sz with _|_|n<;>rfl
  | _=>rfl
 | _=>rfl
theorem ai {h2:Heap}{el tx:TypeId}{x:V}(ha:∀ r∈refs x,h2[r]? = h[r]?):vz P el tx x h2=vz P el tx x h:=by
 unfold vz
 cases yo P tx with
 | none=>rfl
 | some _ =>
  cases x with
  | sl r off len cap=>simp only[ha r (by simp[refs])]
  | t y=>cases y<;>rfl
  | _=>rfl
theorem kU (x:V):refs (unN x)=refs x:=by
 unfold unN
 split<;>rfl
theorem ie {h2:Heap}{el tx:TypeId}{x:V}(ha:∀ r∈refs x,h2[r]? = h[r]?):fc P el tx x h2=fc P el tx x h:=ai (by rw[kU];exact ha)
theorem XD {h2:Heap}{v:V}(ha:∀ r∈refs v,h2[r]? = h[r]?):sN h2 v=sN h v:=by
 cases v with
 | ptr r i j=>simp only[sN,ha r (by simp[refs])]
 | _=>rfl
theorem lO {h2:Heap}:∀ {vs:List V},(∀ r∈refs.refss vs,h2[r]? = h[r]?)→ud h2 vs=ud h vs
 | [],_=>rfl
 | v::vs,ha=>by
  simp only[ud];rw[XD fun r hr=>ha r (by simp[refs.refss,hr]),lO fun r hr=>ha r (by simp[refs.refss,hr])]
theorem XE {h2:Heap}{v:V}(ha:∀ r∈refs v,h2[r]? = h[r]?):vc h2 v=vc h v:=by
 cases v with
 | sl r off len cap=>simp only[vc,ha r (by simp[refs])]
 | fn f caps=>simp only[vc];rw[lO fun r hr=>ha r (by simpa [refs] using hr)]
 | _=>rfl
theorem Xz {h2:Heap}{v:V}(ha:∀ r∈refs v,h2[r]? = h[r]?):zg h2 v=zg h v:=by
 cases v with
 | o x=>rfl
 | _=>exact XE ha
theorem qV {h2:Heap}:∀ {vs:List V},(∀ r∈refs.refss vs,h2[r]? = h[r]?)→xX h2 vs=xX h vs
 | [],_=>rfl
 | v::vs,ha=>by
  simp only[xX];rw[Xz fun r hr=>ha r (by simp[refs.refss,hr]),qV fun r hr=>ha r (by simp[refs.refss,hr])]
theorem il {h2:Heap}:∀ {es:List (List V)},(∀ c∈es,∀ r∈refs.refss c,h2[r]? = h[r]?)→uS h2 es=uS h es
 | [],_=>rfl
 | c::es,ha=>by
  simp only[uS];rw[qV (ha c (by simp)),il fun c' hc'=>ha c' (by simp[hc'])]
theorem XG {vs ws:List V}(hs:∀ v∈vs,v∈ws):∀ r∈refs.refss vs,r∈refs.refss ws:=by
 have key:∀ (l:List V) (r:Nat),r∈refs.refss l↔∃ v∈l,r∈refs v:=fun l=>by
  induction l with
  | nil=>intro r;simp[refs.refss]
  | cons v l ih=>intro r;simp[refs.refss,ih]
 intro r hr;rw[key]at hr ⊢;obtain⟨v,h1,h2⟩:=hr;exact⟨v,hs v h1,h2⟩
def Deep (h h2:Heap)(A:List Nat):Prop:=∀ r∈A,h2[r]? = h[r]? ∧ ∀ r'∈xz h r,h2[r']? = h[r']?
theorem XB {h2:Heap}{A:List Nat}(ha:Deep h h2 A){r off len:Nat}(hr:r∈A):sL h2 h2[r]? off len=sL h h[r]? off len:=by
 obtain⟨h1,h3⟩:=ha r hr;rw[h1];unfold sL
 split
 · rfl
 · rfl
 · rename_i sz es hb;rw[il fun c hc r' hr'=>h3 r' ?_];unfold xz;rw[hb];exact List.mem_flatMap.2 ⟨c,List.mem_of_mem_drop (List.mem_of_mem_take hc),hr'⟩
 · rfl
theorem XC {h2:Heap}{A:List Nat}(ha:Deep h h2 A){r i j:Nat}(hr:r∈A):sM h2 h2[r]? i j=sM h h[r]? i j:=by
 obtain⟨h1,h3⟩:=ha r hr;rw[h1];unfold sM
 split
 · rfl
 · rfl
 · rename_i sz es hb
   cases hes:es[i]? with
   | none=>rfl
   | some cs =>
    simp only;rw[qV fun r' hr'=>h3 r' ?_];unfold xz;rw[hb];exact List.mem_flatMap.2 ⟨cs,List.mem_of_getElem? hes,XG (fun v hv=>List.mem_of_mem_drop hv) r' hr'⟩
 · rfl
mutual
theorem XA {h2:Heap}{A:List Nat}(ha:Deep h h2 A):∀ (v:V),(∀ r∈refs v,r∈A)→yI h2 v=yI h v
 | .sl r off len cap,hr=>by simp only[yI];exact XB ha (hr r (by simp[refs]))
 | .ptr r i j,hr=>by simp only[yI];exact XC ha (hr r (by simp[refs]))
 | .agg cs,hr=>by simp only[yI];rw[uE ha cs fun r h=>hr r (by simpa [refs] using h)]
 | .tup cs,hr=>by simp only[yI];rw[uE ha cs fun r h=>hr r (by simpa [refs] using h)]
 | .fn f cs,hr=>by simp only[yI];rw[uE ha cs fun r h=>hr r (by simpa [refs] using h)]
 | .t _,_=>rfl
 | .nil _,_=>rfl
 | .o _,_=>rfl
 | .und,_=>rfl
 | .bad,_=>rfl
theorem uE {h2:Heap}{A:List Nat}(ha:Deep h h2 A):∀ (vs:List V),(∀ r∈refs.refss vs,r∈A)→yI.snapVs h2 vs=yI.snapVs h vs
 | [],_=>rfl
 | v::vs,hr=>by
  simp only[yI.snapVs];rw[XA ha v fun r h=>hr r (by simp[refs.refss,h]),uE ha vs fun r h=>hr r (by simp[refs.refss,h])]
end
theorem nQ {x:Operand}{args:List Operand}{tys:List TypeId}{e:Env}{g:Nat}{caps:List V}(hf:fnV (opv P e 0 x)=some (g,caps)):∀ r∈refs.refss (yl P e args tys++caps),r∈za e (x::args):=by
 have hop:∀ (az:List Operand) (ts:List TypeId),∀ r∈refs.refss (yl P e az ts),r∈za e az:=by
  intro az
  induction az with
  | nil=>intro ts r hr;simp[yl,refs.refss]at hr
  | cons a az ih =>
   intro ts r hr;have one:∀ ty,r∈refs (opv P e ty a)→r∈za e (a::az):=fun ty h1=>by
    obtain⟨t,rfl,h2⟩:=tV h1;exact wc h2 (by simp)
   have two:r∈za e az→r∈za e (a::az):=fun h1=>by cases a<;>simp[za,h1]
   cases ts with
   | nil =>
    simp only[yl,refs.refss,List.mem_append]at hr;exact hr.elim (one 0) fun h1=>two (ih [] r h1)
   | cons t ts =>
    simp only[yl,refs.refss,List.mem_append]at hr;exact hr.elim (one t) fun h1=>two (ih ts r h1)
 intro r hr;rw[ue]at hr;rcases List.mem_append.1 hr with h1|h1
 · have:=hop args tys r h1
   cases x<;>simp[za,this]
 · have hc:r∈refs (opv P e 0 x):=by
    unfold fnV at hf
    split at hf
    · cases hf;exfalso;have:∀ l:List T,refs.refss (l.map V.t)=[]:=fun l=>by induction l with
       | nil=>rfl
       | cons a l ih=>simp[refs.refss,refs,ih]
      rw[this]at h1;cases h1
    · rename_i g' cs' hx;cases hf;rw[hx];simpa [refs] using h1
    · cases hf
   obtain⟨t,rfl,h2⟩:=tV hc;exact wc h2 (by simp)
theorem Wc {ids:List Nat}{h2:Heap}(hl:h2.length=h.length)(ha:∀ r∈ids,h2[r]? = h[r]?):vB ids h2=vB ids h:=by
 funext r
 unfold vB
 split
 · cases hr:ids[r]? with
   | none=>rfl
   | some k =>
    have e1:xG h2 k=xG h k:=by unfold xG;rw[ha k (List.mem_of_getElem? hr)]
    simp only[e1]
 · rw[hl]
theorem mB {mp:Nat→Option Nat}{h0 h02:Heap}{fp:List Nat}:∀ (ids:List Nat) (bs:Heap) {h h2:Heap},(∀ r∈ids,r∈fp)→(∀ r∈ids,h02[r]? = h0[r]?)→h2.length=h.length→(∀ r∈fp,h2[r]? = h[r]?)→xV fp h (z1 mp h0 ids bs h) h2 (z1 mp h02 ids bs h2)
 | [],bs,h,h2,_,_,_,ha=>by simp only[z1];exact xV.same ha
 | i::is,[],h,h2,_,_,_,ha=>by simp only[z1];exact xV.same ha
 | i :: is, b :: bs, h, h2, hs, h0e, hl, ha => by
  simp only[z1];have hlive:xG h02 i=xG h0 i:=by simp only[xG,h0e i (by simp)]
  rw[hlive];have h1:xV fp h (if xG h0 i=true then h.set i (zj mp b) else h) h2 (if xG h0 i=true then h2.set i (zj mp b) else h2):=by
   split
   · exact xV.set (hs i (by simp)) hl ha _
   · exact xV.same ha
  exact h1.comp (mB is bs (fun r hr=>hs r (by simp[hr])) (fun r hr=>h0e r (by simp[hr])) (by rw[h1.l3,h1.l1,hl]) h1.on)
theorem gT {ids fp:List Nat}(hsub:∀ r∈ids,r∈fp){h2:Heap}(hl:h2.length=h.length)(ha:∀ r∈fp,h2[r]? = h[r]?){i:Nat}{v v':V}{h1' h1:Heap}(hb:x7 (some i) ids v h1' h=some (v',h1)) :
 ∃ h3,x7 (some i) ids v h1' h2=some (v',h3)∧xV fp h h1 h2 h3:=by
 unfold x7 at hb ⊢
 split at hb
 · cases hb
 · rename_i hc
   cases hb;rw[if_neg hc,Wc hl fun r hr=>ha r (hsub r hr)];simp only[Option.isSome_some,Bool.true_and,Bool.or_eq_true,decide_eq_true_eq,not_or,Nat.not_lt]at hc;have hd:h1'.drop ids.length=[]:=List.drop_of_length_le hc.2;rw[hd];simp only[List.map_nil,List.append_nil];exact⟨_,rfl,mB ids h1' hsub (fun r hr=>ha r (hsub r hr)) hl ha⟩
theorem XJ {args:List V}{h2:Heap}(ha:∀ r∈xy h args,h2[r]? = h[r]?):xy h2 args=xy h args∧yj 0 args h2=yj 0 args h:=by
 have e1:xy h2 args=xy h args:=sY 3 _ ha;refine⟨e1,?_⟩;have e2:reach h2 3 (yL (List.range 0) (refs.refss args))=reach h 3 (yL (List.range 0) (refs.refss args)):=e1;unfold yj;rw[e2];simp only[Prod.mk.injEq,true_and];refine List.map_congr_left fun r hr=>?_
 rw[ha r hr]
theorem iI {o:Oper}(hn:ym pol f o=true){e:Env}{v:V}{h':Heap}(hev:zU P pol rec f N o e h=some (v,h')):h'=h:=by
 obtain⟨dst,op,ty,pos,after,guard⟩:=o
 cases op with
 | call c =>
  obtain⟨callee,args,tys⟩:=c
  cases callee with
  | builtin b =>
   simp only[zU]at hev
   cases b<;>simp only[ym,Bool.false_eq_true]at hn<;>simp only[blt]at hev
   all_goals (repeat' split at hev)
   all_goals first|(cases hev;done)|(cases hev;rfl)|(rename_i hh;cases hh;done)|(rename_i hh _;cases hh;done)|contradiction
  | value x =>
   simp only[ym]at hn;simp only[zU,wL]at hev
   cases hp:pol.pm f (dst.getD 0) with
   | frz=>simp[hp]at hn
   | opn gv=>simp[hp]at hn
   | _ =>
    simp only[hp]at hev
    (repeat' split at hev)<;>first|(cases hev;done)|(cases hev;rfl)
  | invoke r m=>simp[ym]at hn
 | _ =>
  first
   | (simp[ym]at hn;done)
   | (simp only[zU]at hev;(repeat' split at hev)<;>first|(cases hev;done)|(cases hev;rfl))
theorem cw {o:Oper}(hn:ym pol f o=true){e:Env}{h2:Heap}(ha:∀ r∈yb N o e h,h2[r]? = h[r]?){v:V}(hev:zU P pol rec f N o e h=some (v,h)):zU P pol rec f N o e h2=some (v,h2):=by
 have hx:∀ {x:Operand} {ty:TypeId},x∈o.op.operands→∀ r∈refs (opv P e ty x),h2[r]? = h[r]? := fun hx r hr=>ha r (tZ hx hr)
 obtain⟨dst,op,ty,pos,after,guard⟩:=o
 cases op with
 | load t a =>
  simp only[zU]at hev ⊢;rw[WU (hx (by simp[Op.operands]))]
  split at hev
  · cases hev;rfl
  · cases hev
 | slice t x lo hi mx =>
  simp only[zU]at hev ⊢;rw[Sp (hx (by simp[Op.operands]))]
  split at hev
  · cases hev;rfl
  · cases hev
 | indexAddr t x i =>
  simp only[zU]at hev ⊢;rw[eW (hx (by simp[Op.operands]))]
  split at hev
  · cases hev;rfl
  · cases hev
 | convert s d x =>
  simp only[zU]at hev ⊢;rw[Ve (hx (by simp[Op.operands]))]
  split at hev
  · cases hev;rfl
  · cases hev
 | call c =>
  obtain⟨callee,args,tys⟩:=c
  cases callee with
  | builtin b =>
   simp only[zU]at hev ⊢
   cases b<;>simp only[ym,Bool.false_eq_true]at hn<;>simp only[blt]at hev ⊢
   all_goals (repeat' split at hev)
   all_goals first|(cases hev;done)|(cases hev;simp_all;done)|(rename_i hk hc;cases hev;rw[if_pos hk,if_neg hc];done)|(rename_i hk hc;cases hev;rw[if_pos hk,if_pos hc];done)|(rename_i hh;cases hh;done)|(rename_i hh _;cases hh;done)|contradiction
  | value x =>
   have hdeep:wD ⟨dst,.call ⟨.value x,args,tys⟩,ty,pos,after,guard⟩=true→Deep h h2 (za e (x::args.toList)):=fun hd r hr=>by
    have ha':∀ k∈reach h 3 (yL [] (za e (x::args.toList))),h2[k]? = h[k]? := fun k hk=>by
     refine ha k ?_;unfold yb qo;rw[if_pos hd];refine List.mem_append.2 (.inr ?_);simpa [Op.operands,Call.operands] using hk
    have hr':r∈yL [] (za e (x::args.toList)):=(wv _ _).2 (.inr hr);exact⟨ha' r (rN h 3 _ hr'),fun r' h1=>ha' r' (an h 2 _ hr' h1)⟩
   simp only[ym]at hn;simp only[zU,wL]at hev ⊢
   cases hp:pol.pm f (dst.getD 0) with
   | frz=>simp[hp]at hn
   | opn gv=>simp[hp]at hn
   | brw=>simp[hp]at hn
   | all=>simp[hp]at hn
   | pure =>
    simp only[hp]at hev ⊢
    split at hev
    · rename_i g caps hg;rw[uE (hdeep (by simp[wD])) _ (nQ hg)]
      (repeat' split at hev)<;>first|(cases hev;done)|(cases hev;simp_all;done)
    · cases hev
  | invoke r m=>simp[ym]at hn
 | _ =>
  first
   | (simp[ym]at hn;done)
   | (simp only[zU]at hev ⊢;(repeat' split at hev)<;>first|(cases hev;done)|(cases hev;simp_all;done)|(cases hev;rfl))
theorem TV {o : Oper} (hn : xr pol f o = true) {i : Nat} {e : Env} {h1 h2 : Heap} (hl : h2.length = h.length) (ha : ∀ r ∈ yb (some i) o e h, h2[r]? = h[r]?) {v : V} (hev : zU P pol rec f (some i) o e h = some (v, h1)) :
 ∃ h3,zU P pol rec f (some i) o e h2=some (v,h3)∧xV (yb (some i) o e h) h h1 h2 h3:=by
 have hx:∀ {x:Operand} {ty:TypeId},x∈o.op.operands→∀ r∈refs (opv P e ty x),r∈yb (some i) o e h:=fun hx r hr=>tZ hx hr
 have hi:i∈yb (some i) o e h:=by simp[yb]
 obtain⟨dst,op,ty,pos,after,guard⟩:=o
 cases op with
 | alloc t =>
  simp only[zU,nI,nH]at hev ⊢
  split at hev
  · split at hev
    · cases hev
    · rename_i zs hz hemp
      cases hev;simp only[hemp];exact⟨_,rfl,xV.set hi hl ha _⟩
  · cases hev
 | box t x =>
  simp only[zU,nI,nH]at hev ⊢
  split at hev
  · cases hev
  · rename_i hc
    cases hev;rw[if_neg hc];exact⟨_,rfl,xV.set hi hl ha _⟩
 | makeSlice t l c =>
  simp only[zU,nI,nH]at hev ⊢
  split at hev
  · split at hev
    · split at hev
      · split at hev
        · cases hev
        · rename_i hc
          cases hev;simp only[*];exact⟨_,rfl,xV.set hi hl ha _⟩
      · cases hev
    · cases hev
  · cases hev
 | buildSlice t len parts =>
  simp only[zU,nI,nH]at hev ⊢
  split at hev
  · rename_i el hel
    split at hev
    · cases hev
    · rename_i hc
      split at hev
      · rename_i css hf
        split at hev
        · rename_i es h' hg
          cases hev;obtain⟨h3,k1,k2⟩:=pg hl (fun r hr=>by
           obtain⟨v,v1,v2⟩:=ph hf r hr;obtain⟨x,t',x1,rfl⟩:=qZ v1;exact hx (by simp only[Op.operands,List.mem_toArray];exact x1) r v2) ha hg
          rw[if_neg hc];simp only[k1];exact⟨_,rfl,k2.comp (xV.set hi (by rw[k2.l3,k2.l1,hl]) k2.on _)⟩
        · cases hev
      · cases hev
  · cases hev
 | call c =>
  obtain⟨callee,args,tys⟩:=c
  cases callee with
  | builtin b =>
   cases b with
   | append =>
    simp only[zU]at hev ⊢;have hops:∀ x∈args.toList,x∈(Op.call ⟨.builtin .append,args,tys⟩).operands:=fun x hx=>by simpa [Op.operands,Call.operands] using hx
    generalize args.toList=al at hev hops ⊢;generalize tys.toList=tl at hev ⊢;have two:∃ a b t u,yl P e al tl=[opv P e t a,opv P e u b]∧a∈al∧b∈al:=by
     match al,tl with
     | [a,b],[t,u]=>exact⟨a,b,t,u,rfl,by simp,by simp⟩
     | [a,b],[t]=>exact⟨a,b,t,0,rfl,by simp,by simp⟩
     | [a,b],[]=>exact⟨a,b,0,0,rfl,by simp,by simp⟩
     | [a,b],t::u::_::_=>exact⟨a,b,t,u,rfl,by simp,by simp⟩
     | [],_=>simp[yl,blt]at hev
     | [_],[]=>simp[yl,blt]at hev
     | [_],_::_=>simp[yl,blt]at hev
     | _::_::_::_,[]=>simp[yl,blt]at hev
     | _::_::_::_,[_]=>simp[yl,blt]at hev
     | _::_::_::_,[_,_]=>simp[yl,blt]at hev
     | _::_::_::_,_::_::_::_=>simp[yl,blt]at hev
    obtain⟨a,b,t,u,e1,ha1,hb1⟩:=two;rw[e1]at hev ⊢;have hra:=hx (ty:=t) (hops a ha1);have hrb:=hx (ty:=u) (hops b hb1);generalize opv P e t a=s at hev hra ⊢;generalize opv P e u b=x at hev hrb ⊢;simp only[blt]at hev ⊢
    split at hev
    rotate_left
    · cases hev
    · unfold app at hev ⊢
      split at hev
      · cases hev
      · rename_i el hel;rw[ie (h:=h) fun r hr=>ha r (hrb r hr)]
        split at hev
        · cases hev
        · rename_i xs hsrc
          split at hev
          · split at hev
            · rename_i hc
              cases hev;exact⟨_,if_pos hc,xV.set hi hl ha _⟩
            · cases hev
          · rename_i r off len cap;have hr:r∈yb (some i) ⟨dst,.call ⟨.builtin .append,args,tys⟩,ty,pos,after,guard⟩ e h:=hra r (by simp[refs]);simp only[ha r hr]
            split at hev
            · split at hev
              · rename_i hc
                cases hev;exact⟨_,if_pos hc,(xV.set hr hl ha _).comp (xV.set hi (by simp[hl]) (xV.set hr hl ha _).on _)⟩
              · cases hev
            · cases hev
          · cases hev
   | _=>simp[xr]at hn
  | value x =>
   simp only[xr]at hn
   cases hp:pol.pm f (dst.getD 0) with
   | opn gv =>
    simp only[zU,wL,hp]at hev ⊢
    split at hev
    · rename_i g caps hg;have hsub:∀ r∈xy h (yl P e args.toList tys.toList++caps),r∈yb (some i) ⟨dst,.call ⟨.value x,args,tys⟩,ty,pos,after,guard⟩ e h:=fun r hr=>by
       unfold yb qo;rw[if_pos (by simp[wD])];refine List.mem_append.2 (.inr (qX h 3 _ _ (fun k hk=>?_) r hr));rw[wv]at hk ⊢;rcases hk with hk|hk
       · cases hk
       · exact .inr (by simpa [Op.operands,Call.operands] using nQ hg k hk)
      obtain⟨p1,p2⟩:=XJ (h2:=h2) fun r hr=>ha r (hsub r hr)
      rw[p2]
      split at hev
      · rename_i v' h1' hr;rw[p1];exact gT hsub hl ha hev
      · cases hev
    · cases hev
   | _=>simp[hp]at hn
  | invoke r m=>simp[xr]at hn
 | _=>simp[xr]at hn
theorem lg {e:Env}{dst:Option Nat}{v:V}{t:Nat}(h:dst≠some t):put e dst v t=e t:=by
 cases dst with
 | none=>rfl
 | some d=>simp only[put,upd];rw[if_neg];intro he;exact h (by rw[he])
theorem dP (e:Env){x y:Option Nat}(v u:V)(h:∀ d,x=some d→y≠some d):put (put e x v) y u=put (put e y u) x v:=by
 funext t
 cases x with
 | none=>rfl
 | some d =>
  cases y with
  | none=>rfl
  | some d' =>
   have hne:d≠d':=fun e=>h d rfl (by rw[e])
   simp only[put,upd]
   by_cases h1:t=d'
   · subst h1;simp[Ne.symm hne]
   · simp[h1]
theorem sC {b:Blk}{r:Nat}(hd:h[r]? = some .dead)(hne:N≠some r):(nH N h b)[r]? = some .dead:=by
 cases N with
 | none=>simp only[nH];rw[List.getElem?_append_left (List.getElem?_eq_some_iff.1 hd).1];exact hd
 | some i =>
  simp only[nH];rw[List.getElem?_set_ne (fun e:i=r=>hne (by rw[e]))];exact hd
theorem r9 {b b':Blk}{r k:Nat}(hd:h[k]? = some .dead)(hb:h[r]? = some b)(hn:b≠.dead):(h.set r b')[k]? = some .dead:=by
 rw[List.getElem?_set_ne (fun e:r=k=>by subst e;rw[hd]at hb;cases hb;exact hn rfl)];exact hd
theorem gR {r i j : Nat} {vs : List V} {h' : Heap} (hs : sy h r i j vs = some h') {k : Nat} (hd : h[k]? = some .dead) : h'[k]? = some .dead := by
 unfold sy at hs
 split at hs
 · rename_i sz es hb
   split at hs
   · split at hs
     · cases hs;exact r9 hd hb (by simp)
     · cases hs
   · cases hs
 · rename_i sz es hb
   split at hs
   · split at hs
     · split at hs
       · rename_i xs h2 hg
         split at hs
         · rename_i sz' es' hb'
           cases hs;unfold qn at hg
           split at hg
           · rename_i ys h3 h3e
             split at hg
             · cases hg;exact r9 ((vE vs h3e).2 k hd) hb' (by simp)
             · cases hg
           · cases hg
         · cases hs
       · cases hs
     · cases hs
   · cases hs
 · cases hs
theorem VJ {ty tx:TypeId}{s x v:V}{h':Heap}(hc:app P N ty tx s x h=some (v,h')){k:Nat}(hd:h[k]? = some .dead)(hne:N≠some k):h'[k]? = some .dead:=by
 unfold app at hc
 split at hc
 · cases hc
 · split at hc
   · cases hc
   · split at hc
     · split at hc
       · cases hc;exact sC hd hne
       · cases hc
     · split at hc
       · rename_i sz es hb
         split at hc
         · cases hc;exact sC (r9 hd hb (by simp)) hne
         · cases hc
       · cases hc
     · cases hc
theorem Vz {b:Builtin}{tys:List TypeId}{args:List V}{v:V}{h':Heap}(hc:blt P N b tys args h=some (v,h')){k:Nat}(hd:h[k]? = some .dead)(hne:N≠some k):h'[k]? = some .dead:=by
 unfold blt at hc
 split at hc
 · split at hc
   · split at hc
     · cases hc;exact hd
     · cases hc
   · cases hc
 · split at hc
   · exact VJ hc hd hne
   · cases hc
 · split at hc
   · cases hc;exact hd
   · cases hc
 · split at hc
   · cases hc;exact hd
   · cases hc
 · cases hc
theorem jL {ids:List Nat}{v v':V}{h1 h':Heap}(hb:x7 N ids v h1 h=some (v',h')){k:Nat}(hd:h[k]? = some .dead):h'[k]? = some .dead:=by
 unfold x7 at hb
 split at hb
 · cases hb
 · cases hb;have hk:=(List.getElem?_eq_some_iff.1 hd).1;rw[List.getElem?_append_left (by rw[xg];exact hk),wX _ _ _ _ _ fun _=>by simp[xG,hd]];exact hd
theorem nK {o : Oper} {e : Env} {v : V} {h' : Heap} (hev : zU P pol rec f N o e h = some (v, h')) {k : Nat} (hd : h[k]? = some .dead) (hne : N ≠ some k) : h'[k]? = some .dead := by
 obtain⟨dst,op,ty,pos,after,guard⟩:=o
 cases op with
 | alloc t =>
  simp only[zU]at hev
  (repeat' split at hev)<;>first|(cases hev;done)|(cases hev;exact sC hd hne)
 | box t x =>
  simp only[zU]at hev
  (repeat' split at hev)<;>first|(cases hev;done)|(cases hev;exact sC hd hne)
 | makeSlice t l c =>
  simp only[zU]at hev
  (repeat' split at hev)<;>first|(cases hev;done)|(cases hev;exact sC hd hne)
 | makeFunc fn first caps =>
  simp only[zU]at hev
  cases fn with
  | func g=>simp only at hev;split at hev<;>first|(cases hev;done)|(cases hev;exact hd)
  | _=>cases hev
 | buildSlice t len parts =>
  simp only[zU]at hev
  split at hev
  · split at hev
    · cases hev
    · split at hev
      · split at hev
        · rename_i es h1 hg
          cases hev;exact sC ((sZ hg).2 k hd) hne
        · cases hev
      · cases hev
  · cases hev
 | store t a x =>
  simp only[zU]at hev
  split at hev
  · rename_i h1 hs
    cases hev;unfold store at hs
    split at hs
    · split at hs
      · exact gR hs hd
      · cases hs
    · cases hs
  · cases hev
 | call c =>
  obtain⟨callee,args,tys⟩:=c
  cases callee with
  | builtin b=>simp only[zU]at hev;exact Vz hev hd hne
  | value x =>
   simp only[zU]at hev
   split at hev
   · rename_i g caps hg;unfold wL at hev
     split at hev
     · split at hev
       · split at hev
         · cases hev;exact hd
         · cases hev
       · split at hev
         · split at hev
           · split at hev
             · cases hev;exact hd
             · cases hev
           · cases hev
         · cases hev
     · split at hev
       · rename_i az h1 hgv
         split at hev
         · cases hev;exact (vE _ hgv).2 k hd
         · cases hev
       · cases hev
     · split at hev
       · exact jL hev hd
       · cases hev
     · cases hev
     · cases hev
   · cases hev
  | invoke r m=>simp[zU]at hev
 | _ =>
  first
   | (simp[zU]at hev;done)
   | (simp only[zU]at hev;(repeat' split at hev)<;>first|(cases hev;done)|(cases hev;exact hd))
def ev1 (P:Program)(pol:Pol)(rec:Rec)(f:Nat)(N:Option Nat)(ops:Array Oper)(o:Oper)(e:Env)(h:Heap):Option (V×Heap) :=
 match want ops o e with
 | some true=>zU P pol rec f N o e h
 | some false=>some (.und,h)
 | none=>none
theorem gl (o:Oper)(e:Env):uC P pol rec f N ops o e h=match ev1 P pol rec f N ops o e h with|some (v,h')=>some (put e o.dst v,h')|none=>none:=by
 unfold uC ev1
 cases want ops o e with
 | none=>rfl
 | some b=>cases b with
  | false=>rfl
  | true=>simp only;cases zU P pol rec f N o e h<;>rfl
theorem nN {o:Oper}(hn:soft pol f o=true){e e':Env}(hs:wM ops o e e'):ev1 P pol rec f N ops o e h=ev1 P pol rec f N ops o e' h:=by
 unfold ev1;rw[qS hs,pj hn hs]
theorem oA {o:Oper}(hn:ym pol f o=true){e:Env}{v:V}{h':Heap}(hev:ev1 P pol rec f N ops o e h=some (v,h')):h'=h:=by
 unfold ev1 at hev
 split at hev
 · exact iI hn hev
 · cases hev;rfl
 · cases hev
theorem Va {o:Oper}{e:Env}{v:V}{h':Heap}(hev:ev1 P pol rec f N ops o e h=some (v,h')){k:Nat}(hd:h[k]? = some .dead)(hne:N≠some k):h'[k]? = some .dead:=by
 unfold ev1 at hev
 split at hev
 · exact nK hev hd hne
 · cases hev;exact hd
 · cases hev
theorem oP {o:Oper}(hs:soft pol f o=true)(hN:xr pol f o=true→N.isSome=true){e:Env}{h1 h2:Heap}(hl:h2.length=h.length)(ha:∀ r∈yb N o e h,h2[r]? = h[r]?){v:V}(hev:ev1 P pol rec f N ops o e h=some (v,h1)) :
 ∃ h3,ev1 P pol rec f N ops o e h2=some (v,h3)∧xV (yb N o e h) h h1 h2 h3:=by
 unfold ev1 at hev ⊢
 split at hev
 · rcases qU hs with hn|hn
   · have:=iI hn hev;subst this;exact⟨h2,cw hn ha hev,xV.same ha⟩
   · obtain⟨i,hi⟩:=Option.isSome_iff_exists.1 (hN hn);subst hi;exact TV hn hl ha hev
 · cases hev;exact⟨h2,rfl,xV.same ha⟩
 · cases hev
theorem jj {xs ys:List Nat}(hd:Rc xs ys=true):∀ r∈xs,r∉ys:=fun r hr=>by
 have:=List.all_eq_true.1 hd r hr;simpa using this
theorem tK {e:Env}{r:Nat}:∀ {xs:List Operand},r∈za e xs→∃ t,.tmp t∈xs∧r∈refs (e t)
 | .tmp t::xs,hr=>by
  simp only[za,List.mem_append]at hr;rcases hr with hr|hr
  · exact⟨t,by simp,hr⟩
  · obtain⟨t',h1,h2⟩:=tK hr;exact⟨t',by simp[h1],h2⟩
 | .const _::xs,hr=>by simp only[za]at hr;obtain⟨t',h1,h2⟩:=tK hr;exact⟨t',by simp[h1],h2⟩
 | .func _::xs,hr=>by simp only[za]at hr;obtain⟨t',h1,h2⟩:=tK hr;exact⟨t',by simp[h1],h2⟩
 | .global _::xs,hr=>by simp only[za]at hr;obtain⟨t',h1,h2⟩:=tK hr;exact⟨t',by simp[h1],h2⟩
theorem Yp {x:Operand}:∀ {xs:List Operand},x∈hdL xs→x∈xs
 | y::_,h=>by simp only[hdL,List.mem_singleton]at h;simp[h]
theorem sV (o:Oper)(e:Env):(∀ h,wN N o e h=[])∧(∀ (P:Program) (pol:Pol) (rec:Rec) (f:Nat),xr pol f o=false)∨(∀ h,wN N o e h=yb N o e h) ∨
 ∃ args tys,o.op=.call ⟨.builtin .append,args,tys⟩∧∀ h,wN N o e h=nL N++za e (hdL args.toList):=by
 obtain⟨dst,op,ty,pos,after,guard⟩:=o
 cases op with
 | call c =>
  obtain⟨callee,args,tys⟩:=c
  cases callee with
  | builtin b =>
   cases b with
   | append=>exact .inr (.inr ⟨args,tys,rfl,fun _=>rfl⟩)
   | _=>exact .inr (.inl fun _=>rfl)
  | _=>exact .inr (.inl fun _=>rfl)
 | _=>first|exact .inl ⟨fun _=>rfl,fun _ _ _ _=>rfl⟩|exact .inr (.inl fun _=>rfl)
theorem TW {o:Oper}{e:Env}{r:Nat}(hr:r∈nL N):r∈yb N o e h:=by
 unfold yb
 cases N with
 | none=>simp[nL]at hr
 | some i=>simp only[nL]at hr;exact List.mem_append.2 (.inl hr)
theorem jU {o:Oper}{e:Env}{r:Nat}(hr:r∈wN N o e h):r∈yb N o e h:=by
 rcases sV (N:=N) o e with⟨h1,_⟩|h1|⟨args,tys,h0,h1⟩
 · rw[h1]at hr;cases hr
 · rw[h1]at hr;exact hr
 · rw[h1]at hr;rcases List.mem_append.1 hr with hr|hr
   · exact TW hr
   · obtain⟨t,h2,h3⟩:=tK hr;unfold yb;refine List.mem_append.2 (.inr (nE (wc h3 ?_)));rw[h0];have:=Yp h2;simpa [Op.operands,Call.operands] using this
theorem SY {i : Nat} {ty tx : TypeId} {s x v : V} {h1 : Heap} (hc : app P (some i) ty tx s x h = some (v, h1)) {r : Nat} (hr : r ≠ i) (hs : r ∉ refs s) : h1[r]? = h[r]? := by
 unfold app at hc
 split at hc
 · cases hc
 · split at hc
   · cases hc
   · split at hc
     · split at hc
       · cases hc;exact List.getElem?_set_ne (fun e:i=r=>hr e.symm)
       · cases hc
     · rename_i k off len cap;have hk:k≠r:=fun e=>hs (by simp[refs,e])
       split at hc
       · split at hc
         · cases hc;simp only[nH];rw[List.getElem?_set_ne (fun e:i=r=>hr e.symm),List.getElem?_set_ne hk]
         · cases hc
       · cases hc
     · cases hc
theorem oO {o : Oper} (hs : soft pol f o = true) (hN : xr pol f o = true → N.isSome = true) {e : Env} {v : V} {h1 : Heap} (hev : ev1 P pol rec f N ops o e h = some (v, h1)) {r : Nat} (hr : r ∉ wN N o e h) : h1[r]? = h[r]? := by
 rcases sV (N:=N) o e with⟨_,hw⟩|hw|⟨args,tys,h0,hw⟩
 · rcases qU hs with hn|hn
   · rw[oA hn hev]
   · rw[hw P pol rec f]at hn;cases hn
 · rw[hw]at hr;obtain⟨_,f1e,f1⟩:=oP hs hN rfl (fun _ _=>rfl) hev;exact f1.off1 r hr
 · rw[hw]at hr;obtain⟨i,hi⟩:=Option.isSome_iff_exists.1 (hN (by unfold xr;rw[h0]));subst hi;obtain⟨dst,op,ty,pos,after,guard⟩:=o;simp only at h0;subst h0;unfold ev1 at hev
   split at hev
   · simp only[zU]at hev;have hne:r≠i:=fun e=>hr (by simp[nL,e])
     have hnot:r∉za e (hdL args.toList):=fun x=>hr (List.mem_append.2 (.inr x))
     generalize args.toList=al at hev hnot;generalize tys.toList=tl at hev;have key:∀ (a b:Operand) (t u:TypeId) (tl':List TypeId),al=[a,b]→yl P e al tl=[opv P e t a,opv P e u b]→h1[r]? = h[r]? := fun a b t u tl' ha h2=>by
      rw[h2]at hev;simp only[blt]at hev
      split at hev
      rotate_left
      · cases hev
      · refine SY hev hne fun hx=>hnot ?_
        obtain⟨t',rfl,h3⟩:=tV hx;rw[ha];exact wc h3 (by simp[hdL])
     match al,tl with
     | [a,b],[t,u]=>exact key a b t u [] rfl rfl
     | [a,b],[t]=>exact key a b t 0 [] rfl rfl
     | [a,b],[]=>exact key a b 0 0 [] rfl rfl
     | [a,b],t::u::_::_=>exact key a b t u [] rfl rfl
     | [],_=>simp[yl,blt]at hev
     | [_],[]=>simp[yl,blt]at hev
     | [_],_::_=>simp[yl,blt]at hev
     | _::_::_::_,[]=>simp[yl,blt]at hev
     | _::_::_::_,[_]=>simp[yl,blt]at hev
     | _::_::_::_,[_,_]=>simp[yl,blt]at hev
     | _::_::_::_,_::_::_::_=>simp[yl,blt]at hev
   · cases hev;rfl
   · cases hev
theorem eJ {o:Oper}{e e':Env}(hs:wM ops o e e'):wN N o e h=wN N o e' h:=by
 have hf:yb N o e h=yb N o e' h:=xb hs;obtain⟨dst,op,ty,pos,after,guard⟩:=o
 cases op with
 | call c =>
  obtain⟨callee,args,tys⟩:=c
  cases callee with
  | builtin b =>
   cases b with
   | append =>
    show nL N++za e (hdL args.toList)=nL N++za e' (hdL args.toList)
    rw[wZ _ fun t ht=>hs t ?_];simp only[Oper.looksAt,List.mem_append,List.mem_filterMap];exact .inl ⟨.tmp t,by have:=Yp ht;simpa [Op.operands,Call.operands] using this,rfl⟩
   | _=>simp only[wN];exact hf
  | _=>simp only[wN];exact hf
 | _=>simp only[wN];try exact hf
theorem r4 {o:Oper}{e e':Env}(hs:wM ops o e e'):w6 N o e h=w6 N o e' h:=by
 unfold w6;rw[eJ hs,xb hs]
theorem rV {o:Oper}{e:Env}{h2:Heap}(ha:∀ r∈yb N o e h,h2[r]? = h[r]?):w6 N o e h2=w6 N o e h:=by
 have h1:wN N o e h2=wN N o e h:=by
  rcases sV (N:=N) o e with⟨hw,_⟩|hw|⟨args,tys,h0,hw⟩
  · rw[hw,hw]
  · rw[hw,hw];exact ov ha
  · rw[hw,hw]
 unfold w6;rw[h1,ov ha]
theorem tQ (N:Option Nat)(o:Oper)(e:Env)(h:Heap):wrE (w6 N o e h)=wN N o e h:=by simp[wrE,w6]
theorem bO (N:Option Nat)(o:Oper)(e:Env)(h:Heap):alE (w6 N o e h)=yb N o e h:=by simp[alE,w6]
theorem V9 {a b:Oper} {Na Nb:Option Nat} (ha:soft pol f a=true) (hb:soft pol f b=true) (hNa:xr pol f a=true→Na.isSome=true) (hNb:xr pol f b=true→Nb.isSome=true) (hap:a.apart ops b=true) {e:Env} {va vb:V} {h1 h2:Heap}
 (hc:(ym pol f a=true∧ym pol f b=true)∨Xh (w6 Na a e h) (w6 Nb b (put e a.dst va) h1)=true)
 (h1e:ev1 P pol rec f Na ops a e h=some (va,h1)) (h2e:ev1 P pol rec f Nb ops b (put e a.dst va) h1=some (vb,h2)) :
 ∃ h3,ev1 P pol rec f Nb ops b e h=some (vb,h3)∧ev1 P pol rec f Na ops a (put e b.dst vb) h3=some (va,h2)∧w6 Nb b e h=w6 Nb b (put e a.dst va) h1∧w6 Na a (put e b.dst vb) h3=w6 Na a e h:=by
 obtain⟨k1,k2,k3⟩:=Oper.apart_spec hap;have s1:wM ops b (put e a.dst va) e:=fun t ht=>lg fun hx=>k1 t hx ht
 have s2:wM ops a (put e b.dst vb) e:=fun t ht=>lg fun hx=>k3 t hx ht
 rw[nN hb s1]at h2e;rw[r4 s1]at hc ⊢;rcases hc with⟨hna,hnb⟩|hd
 · have e1:=oA hna h1e;subst e1;have e2:=oA hnb h2e;subst e2;exact⟨h2,h2e,by rw[nN ha s2];exact h1e,rfl,r4 s2⟩
 · unfold Xh at hd;rw[tQ,tQ,bO,bO,Bool.and_eq_true]at hd;have hd1:=jj hd.1;have hd2:=jj hd.2;obtain⟨_,f2e,f2⟩:=oP hb hNb rfl (fun _ _=>rfl) h2e;rw[h2e]at f2e;cases f2e;obtain⟨_,f1e,f1⟩:=oP ha hNa rfl (fun _ _=>rfl) h1e;rw[h1e]at f1e;cases f1e;have agB:∀ r∈yb Nb b e h1,h[r]? = h1[r]? := fun r hr=>(oO ha hNa h1e fun x=>hd1 r x hr).symm
   obtain⟨h3,g1,g2⟩:=oP hb hNb (h2:=h) f1.l1.symm agB h2e;have hwb:wN Nb b e h=wN Nb b e h1:=by
    have:=congrArg wrE (rV (N:=Nb) agB)
    rwa [tQ,tQ]at this
   have agA:∀ r∈yb Na a e h,h3[r]? = h[r]? := fun r hr=>oO hb hNb g1 fun x=>by rw[hwb]at x;exact hd2 r x hr
   obtain⟨h4,g3,g4⟩:=oP ha hNa (h2:=h3) g2.l3 agA h1e;have hwa:wN Na a e h3=wN Na a e h:=by
    have:=congrArg wrE (rV (N:=Na) agA)
    rwa [tQ,tQ]at this
   refine⟨h3,g1,?_,rV agB,(r4 s2).trans (rV agA)⟩;rw[nN ha s2,g3];have:h4=h2:=by
    apply List.ext_getElem?;intro r
    by_cases hra:r∈wN Na a e h
    · rw[g4.on r (jU hra),oO hb hNb h2e fun x=>hd1 r hra (jU x)]
    · rw[oO ha hNa g3 (by rw[hwa];exact hra)]
      by_cases hrb:r∈yb Nb b e h1
      · rw[g2.on r hrb]
      · rw[g2.off3 r hrb,f2.off1 r hrb,oO ha hNa h1e hra]
   rw[this]
def evN (P:Program)(pol:Pol)(rec:Rec)(f:Nat)(ops:Array Oper)(Ns:Nat→Option Nat)(fp:Nat→List Nat):List Nat→Env→Heap→Option (Env×Heap)
 | [],e,h=>some (e,h)
 | i :: rest, e, h => match ops[i]? with
  | some o=>if w6 (Ns i) o e h=fp i then (match ev1 P pol rec f (Ns i) ops o e h with
   | some (v,h')=>evN P pol rec f ops Ns fp rest (put e o.dst v) h'
   | none=>none) else none
  | none=>none
def Chg (pol:Pol)(f:Nat)(ops:Array Oper)(fp:Nat→List Nat)(i j:Nat):Prop :=
 ∀ oi oj,ops[i]? = some oi→ops[j]? = some oj→oi.apart ops oj=true∧soft pol f oi=true∧soft pol f oj=true∧((ym pol f oi=true∧ym pol f oj=true)∨Xh (fp i) (fp j)=true)
theorem gn {Ns : Nat → Option Nat} {fp : Nat → List Nat} (hNs : ∀ i o, ops[i]? = some o → xr pol f o = true → (Ns i).isSome = true) {i : Nat} (B : List Nat) : ∀ (A : List Nat), (∀ j ∈ A, Chg pol f ops fp j i) → ∀ {h : Heap} {e : Env} {r : Env × Heap},
 evN P pol rec f ops Ns fp (A++i::B) e h=some r→evN P pol rec f ops Ns fp (i::(A++B)) e h=some r
 | [],_,h,e,r,hev=>hev
 | j :: A, hA, h, e, r, hev => by
  simp only[List.cons_append,evN]at hev
  split at hev
  · rename_i oj hoj
    split at hev
    · rename_i hfj
      split at hev
      · rename_i va h1 h1e;have h2:=gn hNs B A (fun k hk=>hA k (by simp[hk])) hev;simp only[evN]at h2
        split at h2
        · rename_i oi hoi
          split at h2
          · rename_i hfi
            split at h2
            · rename_i vb h2' h2e;obtain⟨c1,c2,c3,c4⟩:=hA j (by simp) oj oi hoj hoi;obtain⟨k1,k2,k3⟩:=Oper.apart_spec c1;obtain⟨h3,g1,g2,g3,g4⟩:=V9 c2 c3 (hNs j oj hoj) (hNs i oi hoi) c1 (by rw[hfj,hfi];exact c4) h1e h2e;have f1:w6 (Ns i) oi e h=fp i:=by rw[g3];exact hfi
              have f2:w6 (Ns j) oj (put e oi.dst vb) h3=fp j:=by rw[g4];exact hfj
              simp only[evN,hoi,f1,if_true,g1,List.cons_append,hoj,f2,g2];rw[← dP e va vb k2];exact h2
            · cases h2
          · cases h2
        · cases h2
      · cases hev
    · cases hev
  · cases hev
theorem uG (hp:lh ops=true){j:Nat}{oj:Oper}(hj:ops[j]? = some oj):(∀ e∈oj.after,Region.binds .any e=true→e.on<j) ∧
 ∀ i oi,i<j→ops[i]? = some oi→(∀ e∈oj.after,Region.binds .any e=true→e.on≠i)→oi.apart ops oj=true:=by
 have hlt:j<ops.size:=(Array.getElem?_eq_some_iff.1 hj).1;have h1:=List.all_eq_true.1 hp j (List.mem_range.2 hlt);simp only[hj,Bool.and_eq_true,Array.all_eq_true_iff_forall_mem,List.all_eq_true,List.mem_range]at h1;refine⟨fun e he hb=>?_,fun i oi hi hoi hno=>?_⟩
 · have:=h1.1 e he;simpa [hb] using this
 · have:=h1.2 i hi;simp only[hoi,Bool.or_eq_true]at this;rcases this with h2|h2
   · obtain⟨e,he,hb⟩:=Array.any_eq_true'.1 h2;simp only[Bool.and_eq_true,beq_iff_eq]at hb;exact absurd hb.2 (hno e he hb.1)
   · exact h2
theorem U7 {z:Nat→Prop}{M:Option Nat}(hS:St w F ρ Ow h):St w F ρ ⟨Ow.b,z,M⟩ h:=⟨fun r b hr=>by have:=hS.blk r b hr;cases b<;>exact this,hS.inj,hS.fsz,hS.out,hS.own.imp fun φ k=>⟨k.cell,k.act,k.sep,k.apart⟩⟩
theorem VW {z:Nat→Prop}{M:Option Nat}(hS:St w F ρ ⟨Ow.b,z,M⟩ h):St w F ρ Ow h:=⟨fun r b hr=>by have:=hS.blk r b hr;cases b<;>exact this,hS.inj,hS.fsz,hS.out,hS.own.imp fun φ k=>⟨k.cell,k.act,k.sep,k.apart⟩⟩
theorem ZT {z:Nat→Prop}{M:Option Nat}{w':World}{F':Nat→Prop}{ρ':y9}(hO:OkC Ow w)(hN:Nxt ⟨Ow.b,z,M⟩ w F ρ w' F' ρ'):Nxt Ow w F ρ w' F' ρ' :=
 ⟨hN.os,hN.tape,hN.output,hN.size,hN.keep,hN.agree,hN.grow,hN.new,hN.ext,fun r hr=>absurd hr (hO.z r)⟩
inductive Path (ops:Array Oper) (i:Nat):Nat→Prop
 | dir {j:Nat} {oj:Oper} {e:Edge} (hj:ops[j]? = some oj) (he:e∈oj.after) (hb:Region.binds .any e=true) (h:e.on=i):Path ops i j
 | via {j:Nat} {oj:Oper} {e:Edge} (hj:ops[j]? = some oj) (he:e∈oj.after) (hb:Region.binds .any e=true) (h:Path ops i e.on):Path ops i j
theorem fH {i:Nat}:∀ (n j:Nat),bR ops n i j=true→Path ops i j
 | 0,j,h=>by cases h
 | n+1,j,h=>by
  unfold bR at h
  split at h
  · rename_i oj hj;obtain⟨e,he,hb⟩:=Array.any_eq_true'.1 h;simp only[Bool.and_eq_true,Bool.or_eq_true,beq_iff_eq]at hb;rcases hb.2 with h1|h1
    · exact .dir hj he hb.1 h1
    · exact .via hj he hb.1 (fH n e.on h1)
  · cases h
theorem mj {listed:Array Bool}(hcl:∀ k ok,listed.getD k false=true→ops[k]? = some ok→∀ ed∈ok.after,Region.binds .any ed=true→listed.getD ed.on false=true){i x:Nat}(hp:Path ops i x) :
 (∀ ox,ops[x]? = some ox→∀ ed∈ox.after,Region.binds .any ed=true→listed.getD ed.on false=true)→listed.getD i false=true:=by
 induction hp with
 | dir hj he hb h=>intro hx;rw[← h];exact hx _ hj _ he hb
 | via hj he hb h ih=>intro hx;exact ih (fun ox hox ed hed hbd=>hcl _ ox (hx _ hj _ he hb) hox ed hed hbd)
theorem UR {W0 : World} (hrec : wi P W0 rec) {n : Nat} (hdst : oZ n ops = true) (hpairs : lh ops = true) {Ns : Nat → Option Nat} {fp : Nat → List Nat} (hNs : ∀ i o, ops[i]? = some o → xr pol f o = true → (Ns i).isSome = true)
 (hinj:∀ i j r,Ns i=some r→Ns j=some r→i=j)
 (hchg:∀ i j oj,i<j→ops[j]? = some oj→¬ Path ops i j→Chg pol f ops fp i j) {Q:Exit→Act→World→Prop} :
 ∀ (fuel:Nat) (R:List Nat) (listed:Array Bool) {w:World} {F:Nat→Prop} {ρ:y9} {h:Heap} {e e':Env} {h':Heap} {a:Act},R.length=fuel→R.Pairwise (· < ·)→listed.size=ops.size→(∀ i,i∈R↔i<ops.size∧listed.getD i true=false) →
  (∀ i∈R,∀ r,Ns i=some r→h[r]? = some .dead∧ρ r=none) →
  (∀ k ok,listed.getD k false=true→ops[k]? = some ok→∀ ed∈ok.after,Region.binds .any ed=true→listed.getD ed.on false=true) →
  evN P pol rec f ops Ns fp R e h=some (e',h')→vy W0 w F→St w F ρ Ow h→OkC Ow w→RE w F ρ a e→a.tmps.size=n→a.defers=[]→pA Ow w F ρ n e' h' (Q .normal)→wpAny P .any ops Q fuel listed a w:=by
 intro fuel
 induction fuel with
 | zero =>
  intro R listed w F ρ h e e' h' a hl hs hsz hR hdead hcl hev hB hS hO he hn hd hK;have:R=[]:=List.eq_nil_of_length_eq_zero hl;subst this;simp only[evN]at hev
  cases hev;refine⟨?_,hK a w F ρ he hS (Nxt.refl _ _ _ _) hn hd⟩;apply List.eq_nil_iff_forall_not_mem.2;intro j hj;obtain⟨hju,oj,hoj,_⟩:=mem_ready.1 hj;have:=(hR j).2 ⟨(Array.getElem?_eq_some_iff.1 hoj).1,hju⟩
  cases this
 | succ fuel ih =>
  intro R listed w F ρ h e e' h' a hl hs hsz hR hdead hcl hev hB hS hO he hn hd hK;refine⟨fun hnil=>?_,fun i hi=>?_⟩
  · exfalso
    cases R with
    | nil=>simp at hl
    | cons j R =>
     obtain⟨hj1,hj2⟩:=(hR j).1 (by simp);obtain⟨oj,hoj⟩:∃ o,ops[j]? = some o:=⟨_,Array.getElem?_eq_getElem hj1⟩;have:j∈Region.ready .any ops listed:=mem_ready.2 ⟨hj2,oj,hoj,fun ed hed hb=>by
      have hlt:=(uG hpairs hoj).1 ed hed hb
      cases hx:listed.getD ed.on false with
      | true=>rfl
      | false =>
       have hx':listed.getD ed.on true=false:=by
        simp only[Array.getD_eq_getD_getElem?]at hx ⊢;have hin:ed.on<listed.size:=by omega
        simp[hin]at hx ⊢;exact hx
       have:=(hR ed.on).2 ⟨by omega,hx'⟩;rcases List.mem_cons.1 this with h1|h1
       · omega
       · have:=(List.pairwise_cons.1 hs).1 _ h1;omega⟩
     rw[hnil]at this
     cases this
  · obtain⟨hiu,oi,hoi,hall'⟩:=mem_ready.1 hi;have hmem:=(hR i).2 ⟨(Array.getElem?_eq_some_iff.1 hoi).1,hiu⟩;obtain⟨A,B,rfl⟩:=List.append_of_mem hmem;have hpw:=List.pairwise_append.1 hs;have hnA:i∉A:=fun h1=>by have:=hpw.2.2 i h1 i (by simp);omega
    have hnB:i∉B:=fun h1=>by have:=(List.pairwise_cons.1 hpw.2.1).1 i h1;omega
    have hfront:=gn (P:=P) (rec:=rec) hNs B A (fun j hj=>by
     obtain⟨hj1,hj2⟩:=(hR j).1 (by simp[hj]);refine hchg j i oi (hpw.2.2 j hj i (by simp)) hoi fun hpt=>?_
     have h1:=mj hcl hpt fun ox hox ed hed hb=>by
      rw[hoi]at hox;cases hox;exact hall' ed hed hb
     simp only[Array.getD_eq_getD_getElem?]at h1 hj2;have hin:j<listed.size:=by omega
     simp[hin]at h1 hj2;rw[hj2]at h1;cases h1) hev
    simp only[evN,hoi]at hfront
    split at hfront
    rotate_left
    · cases hfront
    split at hfront
    · rename_i v h1 h1ev;have hO':OkO ⟨Ow.b,fun r=>∃ j∈A++B,Ns j=some r,Ns i⟩ w ρ h:=by
       refine⟨hO.blk,?_,fun k hk=>hdead i (by simp) k hk⟩
       rintro⟨j,hj,hjr⟩
       cases hNi:Ns i with
       | none =>
        simp only[hNi,nI]at hjr;have hdj:=(hdead j (by simp at hj ⊢;rcases hj with h|h;exact .inl h;exact .inr (.inr h)) _ hjr).1;rw[List.getElem?_eq_none (Nat.le_refl _)]at hdj;cases hdj
       | some k =>
        simp only[hNi,nI]at hjr;have:=hinj i j k hNi hjr;subst this;rcases List.mem_append.1 hj with hx|hx
        · exact hnA hx
        · exact hnB hx
      refine Qd hB hrec (Ow:=⟨Ow.b,fun r=>∃ j∈A++B,Ns j=some r,Ns i⟩) hoi (by rw[gl];simp only;rw[h1ev]) (U7 hS) hO' (fun r ⟨j,hj,hjr⟩=>(List.getElem?_eq_some_iff.1 (hdead j (by simp at hj ⊢;rcases hj with h|h;exact .inl h;exact .inr (.inr h)) r hjr).1).1) he hn hd hdst fun a' w' F' ρ' k1 k2 k3 k4 k5=>?_
      have k3':=ZT hO k3;have hcl':∀ k ok,(listed.setIfInBounds i true).getD k false=true→ops[k]? = some ok→∀ ed∈ok.after,Region.binds .any ed=true→(listed.setIfInBounds i true).getD ed.on false=true:=fun k ok hk hok ed hed hb=>by
       have key:listed.getD ed.on false=true:=by
        by_cases hki:k=i
        · subst hki;rw[hoi]at hok;cases hok;exact hall' ed hed hb
        · rw[getD_set_ne false (Ne.symm hki)]at hk;exact hcl k ok hk hok ed hed hb
       by_cases hei:ed.on=i
       · rw[hei]at key ⊢;simp only[Array.getD_eq_getD_getElem?]at key ⊢
         by_cases hin:i<listed.size
         · simp[hin]
         · simp[hin]at key
       · rw[getD_set_ne false (Ne.symm hei)];exact key
      refine ih (A++B) (listed.setIfInBounds i true) (by simp at hl ⊢;omega) ?_ (by simpa using hsz) (fun j=>?_) (fun j hj r hjr=>?_) hcl' hfront (hB.next k3') (VW k2) (hO.mono k3'.size) k1 k4 k5 (hK.step k3')
      · refine List.pairwise_append.2 ⟨hpw.1,(List.pairwise_cons.1 hpw.2.1).2,fun x hx y hy=>hpw.2.2 x hx y (by simp[hy])⟩
      · by_cases hji:j=i
        · subst hji;constructor
          · intro hj;exfalso;rcases List.mem_append.1 hj with h1|h1
            · exact hnA h1
            · exact hnB h1
          · rintro⟨hj1,hj2⟩
            exfalso;have hin:j<listed.size:=by omega
            simp[Array.getD_eq_getD_getElem?,hin]at hj2
        · rw[getD_set_ne true (Ne.symm hji),← hR j];simp[hji]
      · obtain⟨d1,d2⟩:=hdead j (by simp at hj ⊢;rcases hj with h|h;exact .inl h;exact .inr (.inr h)) r hjr;refine⟨Va h1ev d1 fun hx=>?_,(k3.res r ⟨j,hj,hjr⟩).trans d2⟩;have:=hinj i j r hx hjr;subst this;rcases List.mem_append.1 hj with hx|hx
        · exact hnA hx
        · exact hnB hx
    · cases hfront
theorem fR {Ns:Nat→Option Nat}{fp:Nat→List Nat}:∀ (l:List Nat) (Nl:List (Option Nat)) (os:List Oper) {fps:List (List Nat)} {e e':Env} {h h':Heap},l.map (ops[·]?)=os.map some→l.map Ns=Nl→evD P pol rec f ops Nl os e h=some (fps,e',h')→l.map fp=fps →
 evN P pol rec f ops Ns fp l e h=some (e',h')
 | [],[],[],fps,e,e',h,h',_,_,hev,_=>by simp only[evD]at hev;cases hev;rfl
 | i :: l, N :: Nl, o :: os, fps, e, e', h, h', ho, hN, hev, hf => by
  simp only[List.map_cons,List.cons.injEq]at ho hN;simp only[evD]at hev;rw[gl]at hev
  cases h1:ev1 P pol rec f N ops o e h with
  | none=>simp[h1]at hev
  | some x =>
   obtain⟨v,hx⟩:=x;simp only[h1]at hev
   split at hev
   · rename_i fs e'' h'' h2
     cases hev;simp only[List.map_cons,List.cons.injEq]at hf;simp only[evN,ho.1,hN.1,hf.1,if_true,h1];exact fR l Nl os ho.2 hN.2 h2 hf.2
   · cases hev
 | [],_::_,_,fps,e,e',h,h',ho,hN,hev,hf=>by simp at hN
 | _::_,[],_,fps,e,e',h,h',ho,hN,hev,hf=>by simp at hN
 | [],[],_::_,fps,e,e',h,h',ho,hN,hev,hf=>by simp at ho
 | _::_,_::_,[],fps,e,e',h,h',ho,hN,hev,hf=>by simp at ho
theorem fQ:∀ (Nl:List (Option Nat)) (os:List Oper) {fps:List (List Nat)} {e e':Env} {h h':Heap},evD P pol rec f ops Nl os e h=some (fps,e',h')→fps.length=os.length∧Nl.length=os.length
 | [],[],fps,e,e',h,h',hev=>by simp only[evD]at hev;cases hev;exact⟨rfl,rfl⟩
 | N::Nl,o::os,fps,e,e',h,h',hev=>by
  simp only[evD]at hev
  split at hev
  · split at hev
    · rename_i fs e'' h'' h2
      cases hev;have:=fQ Nl os h2;simp[this.1,this.2]
    · cases hev
  · cases hev
 | [],_::_,fps,e,e',h,h',hev=>by simp[evD]at hev
 | _::_,[],fps,e,e',h,h',hev=>by simp[evD]at hev
theorem gk:∀ (os:List Oper) {e e':Env} {h h':Heap},wK P pol rec f ops os e h=some (e',h')→∃ fps,evD P pol rec f ops (List.replicate os.length none) os e h=some (fps,e',h')
 | [],e,e',h,h',hev=>by simp only[wK]at hev;cases hev;exact⟨[],rfl⟩
 | o::os,e,e',h,h',hev=>by
  simp only[wK]at hev
  split at hev
  · rename_i e1 h1 h1e;obtain⟨fps,k⟩:=gk os hev;refine⟨w6 none o e h::fps,?_⟩;simp only[List.length_cons,List.replicate_succ,evD,h1e,k]
  · cases hev
theorem rq:∀ (os:List Oper) (b i:Nat) (r:Nat),(vC pol f b os)[i]? = some (some r)→b≤r∧r<b+wF pol f os
 | [],b,i,r,h=>by simp[vC]at h
 | o :: os, b, i, r, h => by
  simp only[vC]at h;simp only[wF]
  split at h
  · rename_i hn;simp only[hn,if_true]
    cases i with
    | zero=>simp at h;omega
    | succ i =>
     have:=rq os (b+1) i r (by simpa using h);omega
  · rename_i hn;simp only[hn]
    cases i with
    | zero=>simp at h
    | succ i =>
     have:=rq os b i r (by simpa using h);simpa using this
theorem j4:∀ (os:List Oper) (b i j:Nat) (r:Nat),(vC pol f b os)[i]? = some (some r)→(vC pol f b os)[j]? = some (some r)→i=j
 | [],b,i,j,r,h,_=>by simp[vC]at h
 | o :: os, b, i, j, r, h1, h2 => by
  simp only[vC]at h1 h2
  split at h1
  · rename_i hn;simp only[hn,if_true]at h2
    cases i with
    | zero => cases j with
     | zero=>rfl
     | succ j =>
      have:=rq os (b+1) j r (by simpa using h2);simp at h1;omega
    | succ i => cases j with
     | zero =>
      have:=rq os (b+1) i r (by simpa using h1);simp at h2;omega
     | succ j=>rw[j4 os (b+1) i j r (by simpa using h1) (by simpa using h2)]
  · rename_i hn;simp only[hn]at h2
    cases i with
    | zero=>simp at h1
    | succ i=>cases j with
     | zero=>simp at h2
     | succ j=>rw[j4 os b i j r (by simpa using h1) (by simpa using h2)]
theorem kZ:∀ (os:List Oper) (b i:Nat) (o:Oper),os[i]? = some o→xr pol f o=true→∃ r,(vC pol f b os)[i]? = some (some r)
 | [],b,i,o,h,_=>by simp at h
 | o' :: os, b, i, o, h, hn => by
  simp only[vC]
  cases i with
  | zero=>simp at h;subst h;simp only[hn,if_true];exact⟨b,rfl⟩
  | succ i =>
   split
   · simpa using kZ os (b+1) i o (by simpa using h) hn
   · simpa using kZ os b i o (by simpa using h) hn
theorem U6 (hS:St w F ρ Ow h)(k:Nat):St w F ρ Ow (h++List.replicate k .dead):=by
 have hget:∀ r b,(h++List.replicate k Blk.dead)[r]? = some b→h[r]? = some b∨b=Blk.dead:=fun r b hr=>by
  rcases Nat.lt_or_ge r h.length with hlt|hge
  · rw[List.getElem?_append_left hlt]at hr;exact .inl hr
  · rw[List.getElem?_append_right hge,List.getElem?_replicate]at hr
    split at hr
    · cases hr;exact .inr rfl
    · cases hr
 refine⟨fun r b hr=>?_,fun r r' b b' L L' hr hr' hw hw' h1 h2 h3=>?_,hS.fsz,fun r hr=>hS.out r (by simp at hr;omega),?_⟩
 · rcases hget r b hr with h1|rfl
   · exact hS.blk r b h1
   · trivial
 · rcases hget r b hr with k1|rfl
   · rcases hget r' b' hr' with k2|rfl
     · exact hS.inj r r' b b' L L' k1 k2 hw hw' h1 h2 h3
     · simp[writes]at hw'
   · simp[writes]at hw
 · refine hS.owned (Nxt.refl Ow w F ρ) (fun b _ hF _ _=>⟨rfl,hF⟩) (fun r i j x ho=>⟨?_,fun _ _ _ hx=>hx⟩) fun r b L hr hw hL=>?_
   · obtain⟨sz,es,cs,h1,h2⟩:=ho;rcases hget r _ h1 with h3|h3
     · exact⟨sz,es,cs,h3,h2⟩
     · cases h3
   · rcases hget r b hr with h3|rfl
     · exact .inr (hS.same (Ext.refl _) h3 hw hL)
     · simp[writes]at hw
theorem range_map_get {α:Type}(l:List α)(d:α):(List.range l.length).map (fun i=>l.getD i d)=l:=by
 apply List.ext_getElem?;intro i
 by_cases hi:i<l.length
 · simp[hi]
 · simp[hi]
theorem YH {W0 : World} (hB : vy W0 w F) (hrec : wi P W0 rec) {n : Nat} (hdst : oZ n ops = true) (hok : ma P ops = true) {id : Nat} {Q : Exit → Act → World → Prop} {e e' : Env} {h' : Heap} {a : Act}
 (hev:(if !(ops.toList.all (ym pol f)) then uN P pol rec f ops e h else wK P pol rec f ops ops.toList e h)=some (e',h')) (hS:St w F ρ Ow h)
 (hO:OkC Ow w) (he:RE w F ρ a e) (hn:a.tmps.size=n) (hd:a.defers=[]) (hK:pA Ow w F ρ n e' h' (Q .normal)):(Code.region id ops true).wp P Q a w:=by
 simp only[ma,Bool.and_eq_true]at hok;obtain⟨hm,hpairs⟩:=hok;obtain⟨hS1,hN⟩:=kX hS;have hO1:OkC Ow w.drew:=hO.mono (Nat.le_refl _);have hops:(List.range ops.size).map (ops[·]?)=ops.toList.map some:=nr ops;have hlast:∀ i,i∈List.range ops.size↔i<ops.size∧(Array.replicate ops.size false).getD i true=false:=fun i=>by
  simp only[List.mem_range];constructor
  · intro hi;exact⟨hi,by simp[Array.getD_eq_getD_getElem?,hi]⟩
  · exact fun hi=>hi.1
 by_cases hall:ops.toList.all (ym pol f)=true
 · simp only[hall,Bool.not_true,Bool.false_eq_true,if_false]at hev;have non:∀ i o,ops[i]? = some o→ym pol f o=true:=fun i o ho=>List.all_eq_true.1 hall o (by rw[Array.mem_toList_iff];exact Array.mem_of_getElem? ho)
   obtain⟨fps,hD⟩:=gk _ hev;obtain⟨l1,_⟩:=fQ _ _ hD;have hE:=fR (Ns:=fun _=>none) (fp:=fun i=>fps.getD i []) (List.range ops.size) _ _ hops (by simp[List.map_const']) hD (by
    rw[show ops.size=fps.length by simpa using l1.symm];exact range_map_get fps [])
   refine wp_region_any hm (UR (w:=w.drew) hrec hdst hpairs (Ns:=fun _=>none) (fp:=fun i=>fps.getD i []) (fun i o ho hnw=>?_) (fun i j r hr=>by cases hr) (fun i j oj hij hoj hnp oi oj' hoi hoj'=>?_) ops.size (List.range ops.size) (Array.replicate ops.size false) (by simp) List.pairwise_lt_range (by simp) hlast (fun i _ r hr=>by cases hr) (fun k ok hk=>by simp only[Array.getD_eq_getD_getElem?,Array.getElem?_replicate]at hk;split at hk<;>simp at hk) hE (hB.next hN) hS1 hO1 (hN.re he) hn hd (hK.step hN))
   · exfalso;have h1:=non i o ho;obtain⟨dst,op,ty,pos,after,guard⟩:=o
     cases op with
     | call c =>
      obtain⟨callee,args,tys⟩:=c
      cases callee with
      | builtin b=>cases b<;>simp[ym,xr]at h1 hnw
      | value x=>cases hp:pol.pm f (dst.getD 0)<;>simp[ym,xr,hp]at h1 hnw
      | invoke r m=>simp[xr]at hnw
     | _=>simp[ym,xr]at h1 hnw
   · rw[hoj]at hoj';cases hoj';have hno:∀ e∈oj.after,Region.binds .any e=true→e.on≠i:=fun e he hb heq=>hnp (.dir hoj he hb heq)
     exact⟨(uG hpairs hoj).2 i oi hij hoi hno,by simp[soft,non i oi hoi],by simp[soft,non j oj hoj],.inl ⟨non i oi hoi,non j oj hoj⟩⟩
 · simp only[hall,Bool.not_false,if_true]at hev;unfold uN at hev
   split at hev
   · rename_i fps e1 h1 hD
     split at hev
     · rename_i hdyn
       cases hev;obtain⟨l1,l2⟩:=fQ _ _ hD;have hE:=fR (Ns:=fun i=>(vC pol f h.length ops.toList).getD i none) (fp:=fun i=>fps.getD i []) (List.range ops.size) _ _ hops (by
        rw[show ops.size=(vC pol f h.length ops.toList).length by simpa using l2.symm];exact range_map_get _ none) hD (by
        rw[show ops.size=fps.length by simpa using l1.symm];exact range_map_get fps [])
       have hget:∀ i r,(vC pol f h.length ops.toList).getD i none=some r→(vC pol f h.length ops.toList)[i]? = some (some r):=fun i r hr=>by
        rw[List.getD_eq_getElem?_getD]at hr
        cases hx:(vC pol f h.length ops.toList)[i]? with
        | none=>simp[hx]at hr
        | some y=>simp[hx]at hr;rw[hr]
       refine wp_region_any hm (UR (w:=w.drew) hrec hdst hpairs (Ns:=fun i=>(vC pol f h.length ops.toList).getD i none) (fp:=fun i=>fps.getD i []) (fun i o ho hnw=>?_) (fun i j r hr hr'=>j4 _ _ _ _ _ (hget i r hr) (hget j r hr')) (fun i j oj hij hoj hnp oi oj' hoi hoj'=>?_) ops.size (List.range ops.size) (Array.replicate ops.size false) (by simp) List.pairwise_lt_range (by simp) hlast (fun i _ r hr=>?_) (fun k ok hk=>by simp only[Array.getD_eq_getD_getElem?,Array.getElem?_replicate]at hk;split at hk<;>simp at hk) hE (hB.next hN) (U6 hS1 _) hO1 (hN.re he) hn hd (hK.step hN))
       · obtain⟨r,hr⟩:=kZ ops.toList h.length i o (by simpa using ho) hnw;rw[List.getD_eq_getElem?_getD,hr];rfl
       · rw[hoj]at hoj';cases hoj';have hno:∀ e∈oj.after,Region.binds .any e=true→e.on≠i:=fun e he hb heq=>hnp (.dir hoj he hb heq)
         have hlt:j<ops.size:=(Array.getElem?_eq_some_iff.1 hoj).1;have h2:=List.all_eq_true.1 hdyn j (List.mem_range.2 hlt);simp only[hoj,List.all_eq_true,List.mem_range]at h2;have h3:=h2 i hij;simp only[hoi,U5,Bool.or_eq_true,Bool.and_eq_true]at h3;rcases h3 with h3|h3|h3
         rotate_right
         · exact absurd (fH 6 j h3) hnp
         · obtain⟨ed,he1,hb⟩:=Array.any_eq_true'.1 h3;simp only[Bool.and_eq_true,beq_iff_eq]at hb;exact absurd hb.2 (hno ed he1 hb.1)
         · exact⟨(uG hpairs hoj).2 i oi hij hoi hno,h3.1.1,h3.1.2,h3.2⟩
       · obtain⟨r1,r2⟩:=rq _ _ _ _ (hget i r hr);refine⟨?_,hS1.out r r1⟩;rw[List.getElem?_append_right r1,List.getElem?_replicate,if_pos (by omega)]
     · cases hev
   · cases hev
end Go.Proofs.YtefkoljdebekdaaGreatDoor.E

/- Joined: V8 V9 V10 V11 K25 I4 V12 G5 V13 K32 K36 B5. Conditions: those of each lemma. -/
import Derived.Test.YtefkoljdebekdaaGreatDoorsK
import Derived.Test.YtefkoljdebekdaaGreatDoorsI
set_option linter.unusedVariables false
set_option linter.unusedSimpArgs false
set_option maxRecDepth 100000
namespace Go.Proofs.YtefkoljdebekdaaGreatDoor
open Go.Proofs.Tryz
open E
def dg (u:Nat):Str:=cond (u==0) [] (Lib.decDigits u)
theorem ly:dg 0=[]:=rfl
theorem Za {u:Nat}(h:0<u):dg u=Lib.decDigits u:=by
 unfold dg;rw[show (u==0)=false by simp;omega];rfl
theorem fS {u:Nat}(h:0<u):dg u=dg (u / 10)++[UInt8.ofNat (48+u % 10)]:=by
 rw[Za h,Lib.decDigits]
 split
 · rename_i h10;rw[show u / 10=0 by omega,ly,show u % 10=u by omega];rfl
 · rename_i h10;rw[Za (show 0<u / 10 by omega)]
theorem fT:∀ (n u:Nat),u≤n→0<u→∃ c r,dg u=c::r∧(c==48)=false
 | 0,u,h,h0=>by omega
 | n+1,u,h,h0=>by
  rw[fS h0]
  by_cases h1:0<u / 10
  · obtain⟨c,r,e1,e2⟩:=fT n (u / 10) (by omega) h1;exact⟨c,r++[UInt8.ofNat (48+u % 10)],by rw[e1];rfl,e2⟩
  · rw[show u / 10=0 by omega,ly];refine⟨_,[],rfl,?_⟩;have key:∀ k:Fin 10,k.val≠0→(UInt8.ofNat (48+k.val)==48)=false:=by decide +kernel
    exact key ⟨u % 10,by omega⟩ (by simp only;omega)
def ltL (x y:Str):Bool:=decide (x.length<y.length)||(decide (x.length=y.length)&&Op.bytesLess x y)
theorem XO:∀ x:Str,Op.bytesLess x []=false
 | []=>rfl
 | _::_=>rfl
theorem wI:∀ x:Str,Op.bytesLess x x=false
 | []=>rfl
 | a::x=>by rw[vl,wI x];simp
theorem cD (a b:UInt8):∀ x y:Str,x.length=y.length→Op.bytesLess (x++[a]) (y++[b])=(Op.bytesLess x y||(x==y&&decide (a<b)))
 | [],[],_=>by
  simp only[List.nil_append];rw[vl];simp[Op.bytesLess]
 | [],_::_,h=>by simp at h
 | _::_,[],h=>by simp at h
 | c::x,d::y,h=>by
  have ih:=cD a b x y (by simpa using h);rw[List.cons_append,List.cons_append,vl,vl,ih];have e:((c::x)==(d::y))=(c==d&&x==y):=rfl;rw[e]
  cases decide (c<d)<;>cases (c==d)<;>cases Op.bytesLess x y<;>cases (x==y)<;>cases decide (a<b)<;>rfl
theorem WS (a b:UInt8)(x y:Str):ltL (x++[a]) (y++[b])=(ltL x y||(x==y&&decide (a<b))):=by
 unfold ltL;simp only[List.length_append,List.length_cons,List.length_nil]
 by_cases h1:x.length=y.length
 · rw[cD a b x y h1];have e1:decide (x.length+1<y.length+1)=false:=by apply decide_eq_false;omega
   have e2:decide (x.length<y.length)=false:=by apply decide_eq_false;omega
   have e3:decide (x.length+1=y.length+1)=true:=by apply decide_eq_true;omega
   have e4:decide (x.length=y.length)=true:=by apply decide_eq_true;exact h1
   simp only[Nat.zero_add,e1,e2,e3,e4,Bool.false_or,Bool.true_and]
 · have e:(x==y)=false:=by rw[beq_eq_false_iff_ne];intro h;exact h1 (by rw[h])
   have e3:decide (x.length+1=y.length+1)=false:=by apply decide_eq_false;omega
   have e4:decide (x.length=y.length)=false:=by apply decide_eq_false;exact h1
   have e5:decide (x.length+1<y.length+1)=decide (x.length<y.length):=by
    rw[Bool.eq_iff_iff];simp only[decide_eq_true_eq];omega
   simp only[Nat.zero_add,e,e3,e4,e5,Bool.false_and,Bool.or_false]
theorem ZX (x:Str):ltL x x=false:=by unfold ltL;rw[wI];simp
theorem Xi : ∀ (n u w : Nat), u + w ≤ n → ltL (dg u) (dg w) = decide (u < w)
 | 0,u,w,h=>by
  have h1:u=0:=by omega
  have h2:w=0:=by omega
  subst h1;subst h2;rfl
 | n + 1, u, w, h => by
  by_cases hw:w=0
  · subst hw;rw[ly];unfold ltL;rw[XO];simp
  · by_cases hu:u=0
    · subst hu;obtain⟨c,r,e,_⟩:=fT w w (Nat.le_refl _) (by omega);rw[ly,e];unfold ltL;simp;omega
    · rw[fS (show 0<u by omega),fS (show 0<w by omega),WS];have i1:=Xi n (u / 10) (w / 10) (by omega);have i2:=Xi n (w / 10) (u / 10) (by omega);have ed:decide (UInt8.ofNat (48+u % 10)<UInt8.ofNat (48+w % 10))=decide (u % 10<w % 10):=by
       have key:∀ a b:Fin 10,decide (UInt8.ofNat (48+a.val)<UInt8.ofNat (48+b.val))=decide (a.val<b.val):=by decide +kernel
       exact key ⟨u % 10,by omega⟩ ⟨w % 10,by omega⟩
      rw[i1,ed]
      by_cases he:u / 10=w / 10
      · rw[he];simp only[beq_self_eq_true,Bool.true_and,Nat.lt_irrefl,decide_false,Bool.false_or];rw[Bool.eq_iff_iff];simp only[decide_eq_true_eq];omega
      · have hx:(dg (u / 10)==dg (w / 10))=false:=by
         rw[beq_eq_false_iff_ne];intro hh;rw[hh,ZX]at i1;rw[hh,ZX]at i2;have a1:=of_decide_eq_false i1.symm;have a2:=of_decide_eq_false i2.symm;omega
        rw[hx,Bool.false_and,Bool.or_false,Bool.eq_iff_iff];simp only[decide_eq_true_eq];omega
def wO (s:Str):Str:=s.dropWhile (· == 48)
theorem lJ (u:Nat):wO (Lib.decDigits u)=dg u:=by
 by_cases h:0<u
 · rw[← Za h];obtain⟨c,r,e,e2⟩:=fT u u (Nat.le_refl _) h;rw[e];unfold wO;simp[List.dropWhile,e2]
 · have:u=0:=by omega
   subst this;rw[Lib.decDigits_one (by omega)];rfl
def YP (a b:Str):Int:=cond (isNum a&&isNum b)
 (cond (xe ((wO a).length:Int) ((wO b).length:Int)==0) (qN (wO a) (wO b)) (xe ((wO a).length:Int) ((wO b).length:Int)))
 (cond (isNum a) (-1) (cond (isNum b) 1 (qN a b)))
theorem iO {a:Str}(h:vA a=true):isNum a=decide (zN a≥0):=by
 unfold vA at h;simp only[Bool.and_eq_true,Bool.or_eq_true,Bool.not_eq_true',decide_eq_true_eq]at h;rcases h.2.2 with h1|h1
 · rw[h1]
   symm
   apply decide_eq_false;intro hg;obtain⟨a1,_,_,a4⟩:=vT (s:=a) hg;unfold isNum at h1;have e1:(a==[])=false:=by simpa using a4
   have e2:a.all isD=true:=by rw[List.all_eq_true];exact a1
   rw[e1,e2]at h1;cases h1
 · have e:decide (zN a≥0)=true:=decide_eq_true h1;rw[e];obtain⟨a1,_,_,a4⟩:=vT (s:=a) h1;unfold isNum;have e1:(a==[])=false:=by simpa using a4
   have e2:a.all isD=true:=by rw[List.all_eq_true];exact a1
   rw[e1,e2];rfl
theorem kB {a:Str}(h:zN a≥0):∃ u:Nat,zN a=u∧a=Lib.decDigits u:=by
 obtain⟨_,a2,_,_⟩:=vT (s:=a) h;obtain⟨u,hu⟩:∃ u:Nat,zN a=u:=⟨(zN a).toNat,by omega⟩;refine⟨u,hu,?_⟩;rw[hu,Lib.itoa_nonneg]at a2;exact a2.symm
theorem Su (u w:Nat):cond (xe ((dg u).length:Int) ((dg w).length:Int)==0) (qN (dg u) (dg w)) (xe ((dg u).length:Int) ((dg w).length:Int))=xe (u:Int) (w:Int):=by
 have h1:=Xi (u+w) u w (Nat.le_refl _);have h2:=Xi (u+w) w u (by omega);rw[uA];unfold ltL at h1 h2;rcases Nat.lt_trichotomy u w with h|h|h
 · have e:decide (u<w)=true:=decide_eq_true h;rw[e]at h1;have r:xe (u:Int) (w:Int) = -1:=by unfold xe;rw[show decide ((u:Int)<(w:Int))=true by apply decide_eq_true;omega];rfl
   rw[r];rcases Nat.lt_trichotomy (dg u).length (dg w).length with g|g|g
   · have e1:(((dg u).length:Int)==((dg w).length:Int))=false:=by rw[beq_eq_false_iff_ne];omega
     rw[e1,cond_false];unfold xe;rw[show decide (((dg u).length:Int)<((dg w).length:Int))=true by apply decide_eq_true;omega];rfl
   · have e1:(((dg u).length:Int)==((dg w).length:Int))=true:=by rw[beq_iff_eq];omega
     rw[e1,cond_true];have e2:Op.bytesLess (dg u) (dg w)=true:=by
      simp only[g,Nat.lt_irrefl,decide_false,Bool.false_or,decide_true,Bool.true_and]at h1;exact h1
     unfold qN;rw[e2];rfl
   · exfalso;have e1:decide ((dg u).length<(dg w).length)=false:=by apply decide_eq_false;omega
     have e2:decide ((dg u).length=(dg w).length)=false:=by apply decide_eq_false;omega
     rw[e1,e2]at h1;cases h1
 · subst h;have e1:(((dg u).length:Int)==((dg u).length:Int))=true:=by simp
   rw[e1,cond_true];have r:xe (u:Int) (u:Int)=0:=by unfold xe;simp
   rw[r];unfold qN;rw[wI];simp
 · have e:decide (w<u)=true:=decide_eq_true h;rw[e]at h2;have r:xe (u:Int) (w:Int)=1:=by
    unfold xe;rw[show decide ((u:Int)<(w:Int))=false by apply decide_eq_false;omega,show decide ((u:Int) > (w:Int))=true by apply decide_eq_true;omega];rfl
   rw[r];rcases Nat.lt_trichotomy (dg w).length (dg u).length with g|g|g
   · have e1:(((dg u).length:Int)==((dg w).length:Int))=false:=by rw[beq_eq_false_iff_ne];omega
     rw[e1,cond_false];unfold xe;rw[show decide (((dg u).length:Int)<((dg w).length:Int))=false by apply decide_eq_false;omega,show decide (((dg u).length:Int) > ((dg w).length:Int))=true by apply decide_eq_true;omega];rfl
   · have e1:(((dg u).length:Int)==((dg w).length:Int))=true:=by rw[beq_iff_eq];omega
     rw[e1,cond_true];have e2:Op.bytesLess (dg w) (dg u)=true:=by
      simp only[g,Nat.lt_irrefl,decide_false,Bool.false_or,decide_true,Bool.true_and]at h2;exact h2
     have e3:=qd (dg u) (dg w);rw[e2]at e3;have e4:Op.bytesLess (dg u) (dg w)=false:=by
      cases hh:Op.bytesLess (dg u) (dg w) with
      | false=>rfl
      | true=>rw[hh]at e3;cases e3
     unfold qN;rw[e3,e4];rfl
   · exfalso;have e1:decide ((dg w).length<(dg u).length)=false:=by apply decide_eq_false;omega
     have e2:decide ((dg w).length=(dg u).length)=false:=by apply decide_eq_false;omega
     rw[e1,e2]at h2;cases h2
theorem Sw {a b:Str}(ha:vA a=true)(hb:vA b=true):YP a b=tg a b:=by
 unfold YP tg;rw[iO ha,iO hb]
 cases h1:decide (zN a≥0)<;>cases h2:decide (zN b≥0)<;>simp only[Bool.and_true,Bool.and_false,Bool.true_and,Bool.false_and,cond_true,cond_false]
 obtain⟨u,e1,e2⟩:=kB (of_decide_eq_true h1);obtain⟨w,e3,e4⟩:=kB (of_decide_eq_true h2);rw[e1,e3,e2,e4,lJ,lJ];exact Su u w
def qk:List Str→List Str→Option Int
 | a::l,b::m=>cond (YP a b==0) (qk l m) (some (YP a b))
 | _,_=>none
theorem dL:∀ {a b:List Str},(∀ x∈a,vA x=true)→(∀ x∈b,vA x=true)→qk a b=tk a b
 | [],_,_,_=>by unfold qk tk;rfl
 | _::_,[],_,_=>rfl
 | x::a,y::b,ha,hb=>by
  rw[qk,tk,Sw (ha x (by simp)) (hb y (by simp)),dL (fun z hz=>ha z (by simp[hz])) (fun z hz=>hb z (by simp[hz]))]
def Wh (a b:Ver):Int :=
 cond (xe a.maj b.maj==0) (cond (xe a.min b.min==0) (cond (xe a.pat b.pat==0)
  (cond ((a.pre==[]) != (b.pre==[])) (xe (b.pre.length:Int) (a.pre.length:Int)) ((qk a.pre b.pre).getD (xe (a.pre.length:Int) (b.pre.length:Int))))
  (xe a.pat b.pat)) (xe a.min b.min)) (xe a.maj b.maj)
theorem YO {a b:Ver}(ha:yW a=true)(hb:yW b=true):Wh a b=kG a b:=by
 have h1:=(vG ha).2.2.2.1;have h2:=(vG hb).2.2.2.1;rw[List.all_eq_true]at h1 h2;have hs:=dL h1 h2;unfold Wh kG ua;rw[hs]
 congr 3
 cases hx:a.pre with
 | nil =>
  cases hy:b.pre with
  | nil=>rfl
  | cons y l=>rfl
 | cons x k =>
  cases hy:b.pre with
  | nil=>rfl
  | cons y l=>rfl
theorem bE:∀ a b:Str,Lib.compareBytes a b=qN a b
 | [],[]=>rfl
 | [],_::_=>rfl
 | _::_,[]=>by simp[Lib.compareBytes,qN,Op.bytesLess]
 | a::x,b::y=>by
  have ih:=bE x y;unfold qN at ih ⊢;rw[Lib.compareBytes,vl,show ((a::x)==(b::y))=(a==b&&x==y) from rfl]
  by_cases h1:a<b
  · rw[if_pos h1];simp[h1]
  · rw[if_neg h1]
    by_cases h2:b<a
    · have h3:(a==b)=false:=by
       rw[beq_eq_false_iff_ne];intro h;subst h;exact h1 h2
      rw[if_pos h2];simp[h1,h3]
    · have h3:a=b:=by
       apply UInt8.toNat_inj.1;simp only[UInt8.lt_iff_toNat_lt]at h1 h2;omega
      subst h3;rw[if_neg h2,ih];simp only[decide_false,h1,Bool.false_or,beq_self_eq_true,Bool.true_and]
theorem Uj:∀ x y:Str,Op.bytesLess x y=decide (x<y)
 | [],[]=>by simp[Op.bytesLess]
 | [],b::y=>by simp[Op.bytesLess]
 | a::x,[]=>by simp[Op.bytesLess]
 | a::x,b::y=>by
  rw[vl,Uj x y,Bool.eq_iff_iff];simp only[Bool.or_eq_true,decide_eq_true_eq,Bool.and_eq_true,beq_iff_eq,List.cons_lt_cons_iff]
theorem er (x y:Str):decide (x≤y) = !(Op.bytesLess y x):=by
 rw[Uj,Bool.eq_iff_iff];simp only[decide_eq_true_eq,Bool.not_eq_true',decide_eq_false_iff_not];exact Iff.rfl
theorem rr {x y:Str}(h1:Op.bytesLess x y=false)(h2:Op.bytesLess y x=false):x=y:=by
 have h:=qd x y;rw[h1,h2]at h;simpa using h
theorem wG:∀ {x y z:Str},Op.bytesLess x y=true→Op.bytesLess y z=true→Op.bytesLess x z=true
 | [],[],z,h1,_=>by simp[Op.bytesLess]at h1
 | _::_,[],z,h1,_=>by simp[Op.bytesLess]at h1
 | [],_::_,[],_,h2=>by simp[Op.bytesLess]at h2
 | [],_::_,_::_,_,_=>by simp[Op.bytesLess]
 | _::_,_::_,[],_,h2=>by simp[Op.bytesLess]at h2
 | a::x,b::y,c::z,h1,h2=>by
  rw[vl]at h1 h2 ⊢;simp only[Bool.or_eq_true,decide_eq_true_eq,Bool.and_eq_true,beq_iff_eq,UInt8.lt_iff_toNat_lt]at h1 h2 ⊢;rcases h1 with h1|⟨rfl,h1⟩
  · rcases h2 with h2|⟨rfl,h2⟩
    · left;omega
    · left;exact h1
  · rcases h2 with h2|⟨rfl,h2⟩
    · left;exact h2
    · right;exact⟨rfl,wG h1 h2⟩
theorem ar {x y z:Str}(h1:Op.bytesLess y x=false)(h2:Op.bytesLess z y=false):Op.bytesLess z x=false:=by
 cases h:Op.bytesLess z x with
 | false=>rfl
 | true =>
  exfalso
  cases hyz:Op.bytesLess y z with
  | true=>have:=wG hyz h;rw[h1]at this;cases this
  | false =>
   have:=rr hyz h2;subst this;rw[h1]at h;cases h
def Asc (l:List Str):Prop:=l.Pairwise fun x y=>Op.bytesLess y x=false
theorem Xy (l:List Str):Asc (wy l):=by
 have:=List.pairwise_mergeSort (le:=fun x y:Str=>decide (x≤y)) (fun a b c h1 h2=>by
  rw[er]at *;simp only[Bool.not_eq_true']at *;exact ar h1 h2) (fun a b=>by
  rw[er,er]
  cases h1:Op.bytesLess b a<;>cases h2:Op.bytesLess a b<;>first|rfl|skip
  have:=wG h1 h2;rw[wI]at this;cases this) l
 refine List.Pairwise.imp (fun {a b} h=>?_) this;rw[er]at h;simpa using h
def vD:List Str→Str→List Str
 | [],s=>[s]
 | x::r,s=>cond (Op.bytesLess x s) (x::vD r s) (cond (x==s) (x::r) (s::x::r))
def yV (l:List Str)(s:Str):Bool:=l.any (· == s)
theorem nS:∀ (l:List Str) (s:Str),yV l s=false→(vD l s).Perm (l++[s])
 | [],s,_=>by simp[vD]
 | x::r,s,h=>by
  simp only[yV,List.any_cons,Bool.or_eq_false_iff]at h;rw[vD,h.1]
  cases Op.bytesLess x s with
  | true=>simp only[cond_true,List.cons_append];exact (nS r s h.2).cons x
  | false=>simp only[cond_false];exact (List.perm_append_singleton s (x::r)).symm
def sf (ps:List z8)(k:Str):Option z8:=match vd ps k with
 | some i=>ps[i]?
 | none=>none
theorem YC {α:Type}(p:α→Bool):∀ (l:List α) (n i:Nat),vM p l n=some i→n≤i∧∃ q,l[i - n]? = some q∧p q=true
 | [],n,i,h=>by cases h
 | x::r,n,i,h=>by
  rw[vM]at h
  split at h
  · rename_i hx
    cases h;exact⟨Nat.le_refl _,x,by simp,hx⟩
  · obtain⟨h1,q,h2,h3⟩:=YC p r (n+1) i h;refine⟨by omega,q,?_,h3⟩;rw[show i - n=(i - (n+1))+1 by omega];simpa using h2
theorem nG {α:Type}{p:α→Bool}{l:List α}{i:Nat}(h:vM p l 0=some i):∃ q,l[i]? = some q∧p q=true:=by
 obtain⟨_,q,h2,h3⟩:=YC p l 0 i h;exact⟨q,by simpa using h2,h3⟩
theorem oy {ps:List z8}{k:Str}{p:z8}(h:sf ps k=some p):p∈ps∧keyOf p=k∧∃ i,vd ps k=some i∧ps[i]? = some p:=by
 unfold sf at h
 split at h
 · rename_i i hi;exact⟨List.mem_of_getElem? h,by
    have:=nG hi;obtain⟨q,h1,h2⟩:=this;rw[h]at h1
    cases h1;simpa using h2,i,hi,h⟩
 · cases h
theorem bf {ps:List z8}{k:Str}(h:sf ps k=none):vd ps k=none:=by
 unfold sf at h
 split at h
 · rename_i i hi;obtain⟨q,h1,h2⟩:=nG hi;rw[h]at h1;cases h1
 · assumption
def xU:List Str→Str→Nat
 | [],_=>0
 | x::r,s=>cond (Op.bytesLess x s) (xU r s+1) 0
def atS (l:List Str)(s:Str):Bool:=l[xU l s]? == some s
theorem fG:∀ (l:List Str) (s:Str),xU l s≤l.length
 | [],s=>by simp[xU]
 | x::r,s=>by
  have:=fG r s;rw[xU]
  cases Op.bytesLess x s with
  | true=>simp only[cond_true,List.length_cons];omega
  | false=>simp
theorem jt:∀ (l:List Str) (s:Str),atS l s=true→vD l s=l
 | [],s,h=>by simp[atS,xU]at h
 | x :: r, s, h => by
  unfold atS at h;rw[xU]at h;rw[vD]
  cases h1:Op.bytesLess x s with
  | true =>
   rw[h1,cond_true,List.getElem?_cons_succ]at h;simp only[cond_true];rw[jt r s h]
  | false =>
   rw[h1,cond_false]at h;have:x=s:=by simpa using h
   subst this;simp
theorem ec:∀ (l:List Str) (s:Str),atS l s=false→vD l s=l.take (xU l s)++s::l.drop (xU l s)
 | [],s,h=>by simp[vD,xU]
 | x :: r, s, h => by
  unfold atS at h;rw[xU]at h ⊢;rw[vD]
  cases h1:Op.bytesLess x s with
  | true =>
   rw[h1,cond_true,List.getElem?_cons_succ]at h;simp only[cond_true,List.take_succ_cons,List.drop_succ_cons,List.cons_append];rw[ec r s h]
  | false =>
   rw[h1,cond_false]at h;have:(x==s)=false:=by simpa using h
   simp[this]
theorem iL (a v:Str)(hv:(64:UInt8)∉v):∀ n,n≤v.length→bT 64 (a++64::v) (a.length+1+n)=some a.length
 | 0,_=>by simp[bT]
 | n + 1, hn => by
  have e:(a++64::v)[a.length+1+n]? = v[n]? := by
   rw[List.getElem?_append_right (by omega),show a.length+1+n - a.length=n+1 by omega,List.getElem?_cons_succ]
  have ne:¬ (v[n]? = some 64):=fun h=>hv (List.mem_of_getElem? h)
  rw[show a.length+1+(n+1)=(a.length+1+n)+1 by omega,bT,e,if_neg ne];exact iL a v hv n (by omega)
theorem pG (a v:Str)(hv:(64:UInt8)∉v):kN ((a++[64])++v)=(a,v):=by
 have h:=iL a v hv v.length (Nat.le_refl _);unfold kN;rw[show (a++[64])++v=a++64::v by simp,show (a++64::v).length=a.length+1+v.length by simp;omega,h];simp
theorem Wk {v:Str}(h:(wE v).isSome=true):(64:UInt8)∉v:=by
 intro hm;have h1:=Uy (c:=64) (by decide) hm;rw[V5 h1]at h
 cases h
theorem eL {p:z8}(h:vN p=true):kN (keyOf p)=(p.name,p.version):=by
 unfold vN at h;simp only[Bool.and_eq_true]at h;exact pG p.name p.version (Wk h.2.1)
theorem ml (ps:List z8):∀ (o:Option Str) (l:List z8),wk ps o l=true→∀ p∈l,vN p=true∧xZ ps none p.zB=true
 | _,[],_,p,hp=>by simp at hp
 | o,q::r,h,p,hp=>by
  rw[wk]at h;simp only[Bool.and_eq_true]at h;rcases List.mem_cons.1 hp with rfl|hp
  · exact⟨h.1.1,h.1.2.2⟩
  · exact ml ps _ r h.2 p hp
theorem qI {g:zy}(h:zW g=true):∀ p∈g.packs,vN p=true∧xZ g.packs none p.zB=true:=by
 unfold zW at h;simp only[Bool.and_eq_true]at h;exact ml g.packs none g.packs h.1
theorem x9 {l:List Str}{i:Nat}{s:Str}(h:l[i]? = some s):(strs l)[i]? = some [.str s]:=by simp[strs,h]
theorem Ry (l:List Str)(hl:l.length≤1048576)(s:Str):∀ (rest pre:List Str),l=pre++rest →
 EV prog pol (.loop 148 26 0 [.t (.list 1 (strs l)),.t (.str s),.t (.int .i64 (pre.length:Int))] [])=some (cond (yV rest s) (.loop .ret [.t (.bool true)] []) (.loop (.exit 0) [.bad] []))
 | [],pre,h=>by
  have c:decide ((pre.length:Int)<(l.length:Int))=false:=by simp[h]
  rw[show yV [] s=false from rfl,cond_false];refine zh func148 rfl rfl ?_;simp (disch:=(try simp only[LL]);omega) only[↓GO,↓DRW,GA,GX,ren,zj,za,refs,z7,cst,zm,isC,bin,una,z6,zd,blt,asArg,zg,zc,zf,z1,zn,unN,ze,zk,zb,GS,simprocAttr,GZ,c,zo,zA]
 | x :: rest, pre, h => by
  have c:decide ((pre.length:Int)<(l.length:Int))=true:=by simp[h];omega
  have hget:(strs l)[pre.length]? = some [.str x]:=x9 (by rw[h];simp);have hlen:pre.length+rest.length+1≤l.length:=by rw[h];simp;omega
  have IH:=Ry l hl s rest (pre++[x]) (by rw[h];simp);rw[show ((pre++[x]).length:Int)=(pre.length:Int)+1 by simp]at IH;rw[show yV (x::rest) s=((x==s)||yV rest s) from rfl];clear h
  cases q:(x==s) with
  | true =>
   simp only[Bool.true_or,cond_true];refine zh func148 rfl rfl ?_;simp (disch:=(try simp only[LL]);omega) only[↓GO,↓DRW,GA,GX,ren,zj,za,refs,z7,cst,zm,isC,bin,una,z6,zd,blt,asArg,zg,zc,zf,z1,zn,unN,ze,zk,zb,GS,simprocAttr,GZ,c,hget,zo,q,zi,zA]
  | false =>
   simp only[Bool.false_or];refine zh func148 rfl rfl ?_;simp (disch:=(try simp only[LL]);omega) only[↓GO,↓DRW,GA,GX,ren,zj,za,refs,z7,cst,zm,isC,bin,una,z6,zd,blt,asArg,zg,zc,zf,z1,zn,unN,ze,zk,zb,GS,simprocAttr,GZ,c,hget,zo,q,zi,zA,IH]
theorem Xn (l:List Str)(hl:l.length≤1048576)(s:Str):zr (EV prog pol) 148 [.t (.list 1 (strs l)),.t (.str s)]=some (.t (.bool (yV l s))):=by
 have L:=Ry l hl s l [] rfl;simp only[List.length_nil,Int.natCast_zero]at L
 cases q:yV l s<;>rw[q]at L<;>simp only[cond_true,cond_false]at L
 all_goals
  apply zu;refine zx rfl func148 rfl (by kernel_rfl) ?_;unfold Tryz.f148;simp (disch:=(try simp only[LL]);omega) only[↓GO,↓DRW,GA,GX,ren,zj,za,refs,z7,cst,zm,isC,bin,una,z6,zd,blt,asArg,zg,zc,zf,z1,zn,unN,ze,zk,zb,GS,simprocAttr,GZ,L,zo,zA]
theorem Td (l:List Str)(hl:l.length≤1073741824)(s:Str)(n:Nat)(hn:n=l.length)(cap:Option Nat):∀ (rest pre:List Str),l=pre++rest →
 EV prog pol (.loop 120 28 1 [.sl 0 0 n cap,.t (.str s),.t (.int .i64 (pre.length:Int))] [.ts 1 (strs l)])=some (.loop (.exit 0) [.sl 0 0 n cap,.t (.str s),.t (.int .i64 ((pre.length+xU rest s:Nat):Int))] [.ts 1 (strs l)])
 | [],pre,h=>by
  have c:decide ((pre.length:Int)<(n:Int))=false:=by simp[hn,h]
  rw[show xU [] s=0 from rfl,Nat.add_zero];refine zh func120 rfl rfl ?_;simp (disch:=(try simp only[LL]);omega) only[↓GO,↓DRW,GA,GX,ren,zj,za,refs,z7,cst,zm,isC,bin,una,z6,zd,blt,asArg,zg,zc,zf,z1,zn,unN,ze,zk,zb,GS,simprocAttr,GZ,c,zA]
 | x :: rest, pre, h => by
  have c:decide ((pre.length:Int)<(n:Int))=true:=by simp[hn,h];omega
  have c0:decide ((0:Int)≤(pre.length:Int))=true:=by simp
  have hget:(strs l)[pre.length]? = some [.str x]:=x9 (by rw[h];simp);have hlen:pre.length+rest.length+1≤l.length:=by rw[h];simp;omega
  have IH:=Td l hl s n hn cap rest (pre++[x]) (by rw[h];simp);rw[show ((pre++[x]).length:Int)=(pre.length:Int)+1 by simp,show (pre++[x]).length+xU rest s=pre.length+(xU rest s+1) by simp;omega]at IH;rw[xU];clear h
  cases q:Op.bytesLess x s with
  | true =>
   simp only[cond_true];refine zh func120 rfl rfl ?_;simp (disch:=(try simp only[LL]);omega) only[↓GO,↓DRW,GA,GX,ren,zj,za,refs,z7,cst,zm,isC,bin,una,z6,zd,blt,asArg,zg,zc,zf,z1,zn,unN,ze,zk,zb,GS,simprocAttr,GZ,c,c0,hget,q,zi,zA,IH]
  | false =>
   simp only[cond_false,Nat.add_zero];refine zh func120 rfl rfl ?_;simp (disch:=(try simp only[LL]);omega) only[↓GO,↓DRW,GA,GX,ren,zj,za,refs,z7,cst,zm,isC,bin,una,z6,zd,blt,asArg,zg,zc,zf,z1,zn,unN,ze,zk,zb,GS,simprocAttr,GZ,c,c0,hget,q,zi,zA]
theorem UN (l:List Str)(hl:l.length≤1073741824)(s:Str)(n:Nat)(hn:n=l.length)(cap:Option Nat)(h:atS l s=true):EV prog pol (.callO false 120 [.sl 0 0 n cap,.t (.str s)] [.ts 1 (strs l)])=some (.call (.sl 0 0 n cap) [.ts 1 (strs l)]):=by
 have L:=Td l hl s n hn cap l [] rfl;simp only[List.length_nil,Int.natCast_zero,Nat.zero_add]at L;unfold atS at h;have hat:l[xU l s]? = some s:=by simpa using h
 have hget:=x9 hat;have hlt:xU l s<l.length:=(List.getElem?_eq_some_iff.1 hat).1;have c:decide (((xU l s:Nat):Int)<(n:Int))=true:=by rw[hn];simpa using hlt
 have c0:decide ((0:Int)≤((xU l s:Nat):Int))=true:=by simp
 clear h hat;generalize xU l s=p at *;refine zM func120 rfl (by kernel_rfl) ?_;unfold Tryz.f120;simp (disch:=(try simp only[LL]);omega) only[↓GO,↓DRW,GA,GX,ren,zj,za,refs,z7,cst,zm,isC,bin,una,z6,zd,blt,asArg,zg,zc,zf,z1,zn,unN,ze,zk,zb,GS,simprocAttr,GZ,L,c,c0,hget,beq_self_eq_true,zA]
theorem UO (l:List Str)(hl:l.length≤1073741824)(s:Str)(n:Nat)(hn:n=l.length)(cap:Option Nat)(h:atS l s=false):EV prog pol (.callO false 120 [.sl 0 0 n cap,.t (.str s)] [.ts 1 (strs l)])=some (.call (.sl 1 0 (n+1) none) [.ts 1 (strs l),.ts 1 (strs (vD l s))]):=by
 have L:=Td l hl s n hn cap l [] rfl;simp only[List.length_nil,Int.natCast_zero,Nat.zero_add]at L;rw[ec l s h];have hp:=fG l s;unfold atS at h;have c0:decide ((0:Int)≤((xU l s:Nat):Int))=true:=by simp
 have hsl:(strs l).length=n:=by rw[zo,hn]
 have e:strs (l.take (xU l s)++s::l.drop (xU l s))=((strs l).take (xU l s)++[[.str s]])++(strs l).drop (xU l s):=by simp[strs]
 rw[e];have hA1:((strs l).take (xU l s)).length=xU l s:=by rw[List.length_take,hsl];omega
 have hB0:((strs l).drop (xU l s)).take (n - xU l s)=(strs l).drop (xU l s):=List.take_of_length_le (by rw[List.length_drop,hsl];omega);have hB1:((strs l).drop (xU l s)).length=n - xU l s:=by rw[List.length_drop,hsl]
 have hE:xU l s+1+(n - xU l s)=n+1:=by omega
 rw[← hn]at hp;have hnl:n≤1073741824:=by omega
 cases hx:l[xU l s]? with
 | none =>
  have hlt:l.length≤xU l s:=List.getElem?_eq_none_iff.1 hx;have c:decide (((xU l s:Nat):Int)<(n:Int))=false:=by rw[hn];simpa using hlt
  clear h hx e;generalize xU l s=p at *;generalize hA:(strs l).take p=A at *;generalize hB:(strs l).drop p=B at *;have hC:(A++[[T.str s]]).length=p+1:=by simp[hA1]
  refine zM func120 rfl (by kernel_rfl) ?_;unfold Tryz.f120;simp (disch:=(try simp only[LL]);omega) only[↓GO,↓DRW,GA,GX,ren,zj,za,refs,z7,cst,zm,isC,bin,una,z6,zd,blt,asArg,zg,zc,zf,z1,zn,unN,ze,zk,zb,GS,simprocAttr,GZ,L,c,c0,hsl,Nat.sub_zero,hA,hA1,hC,hB,hB0,hB1,hE,List.nil_append,Nat.zero_add,zA,y6];refine zT (by kernel_rfl) ?_;rfl
 | some x =>
  rw[hx]at h;have q:(x==s)=false:=by simpa using h
  have hget:=x9 hx;have hlt:xU l s<l.length:=(List.getElem?_eq_some_iff.1 hx).1;have c:decide (((xU l s:Nat):Int)<(n:Int))=true:=by rw[hn];simpa using hlt
  clear h hx e;generalize xU l s=p at *;generalize hA:(strs l).take p=A at *;generalize hB:(strs l).drop p=B at *;have hC:(A++[[T.str s]]).length=p+1:=by simp[hA1]
  refine zM func120 rfl (by kernel_rfl) ?_;unfold Tryz.f120;simp (disch:=(try simp only[LL]);omega) only[↓GO,↓DRW,GA,GX,ren,zj,za,refs,z7,cst,zm,isC,bin,una,z6,zd,blt,asArg,zg,zc,zf,z1,zn,unN,ze,zk,zb,GS,simprocAttr,GZ,L,c,c0,hget,q,hsl,Nat.sub_zero,hA,hA1,hC,hB,hB0,hB1,hE,List.nil_append,Nat.zero_add,zA,y6];refine zT (by kernel_rfl) ?_;rfl
theorem Yj (k:Str):∀ (r:List Str) (i:Nat),decide (ixS k i r≥0)=yV r k
 | [],i=>rfl
 | x::r,i=>by
  rw[ixS,show yV (x::r) k=((x==k)||yV r k) from rfl]
  cases (x==k) with
  | true=>simp
  | false=>simp only[cond_false,Bool.false_or];exact Yj k r (i+1)
theorem c_con (l:List Str)(hl:l.length≤1048576)(s:Str):zr (EV prog pol) 138 [.t (.list 1 (strs l)),.t (.str s)]=some (.t (.bool (yV l s))):=by
 have h1:=c_ix s l hl;have h2:=Yj s l 0;apply zu;refine zx rfl func138 rfl (by kernel_rfl) ?_;unfold Tryz.f138;simp (disch:=(try simp only[LL]);omega) only[↓GO,↓DRW,GA,GX,ren,zj,za,refs,z7,cst,zm,isC,bin,una,z6,zd,blt,asArg,zg,zc,zf,z1,zn,unN,ze,zk,zb,GS,simprocAttr,GZ,h1,h2,zA]
theorem qH (g:Nat)(caps:List T)(p:Str→Bool)(es:List Str)(hl:es.length≤4611686018427387904)(hp:∀ x∈es,zr (EV prog pol) g (.t (.str x)::caps.map .t)=some (.t (.bool (p x)))):∀ (rest pre:List Str),es=pre++rest →
 EV prog pol (.loop 140 26 0 [.t (.list 1 (strs es)),.t (.fn g caps),.t (.int .i64 (es.length:Int)),.t (.int .i64 (pre.length:Int))] [])=some (match vM p rest pre.length with|some i=>.loop .ret [.t (.int .i64 (i:Int))] []|none=>.loop (.exit 0) [.bad] [])
 | [],pre,hs=>by
  have c:decide ((pre.length:Int)<(es.length:Int))=false:=by simp[hs]
  refine zh func140 rfl rfl ?_;simp only[↓GO,↓DRW,GA,GX,ren,zj,za,refs,z7,cst,zm,isC,bin,una,z6,zd,blt,asArg,zg,zc,zf,z1,zn,unN,ze,zk,zb,GS,simprocAttr,c,vM]
 | b :: rest, pre, hs => by
  have c:decide ((pre.length:Int)<(es.length:Int))=true:=by simp[hs];omega
  have hi:pre.length<es.length:=by rw[hs];simp
  have hget:=w8 es pre.length hi;have hgb:es[pre.length]=b:=by simp[hs]
  rw[hgb]at hget;have hb:=hp b (by rw[hs];simp);have e1:(pre.length:Int)+1=((pre++[b]).length:Int):=by simp
  have IH:=qH g caps p es hl hp rest (pre++[b]) (by rw[hs];simp);refine zh func140 rfl rfl ?_;simp only[vM]
  cases hpb:p b with
  | true =>
   rw[hpb]at hb;simp (disch:=omega) only[↓GO,↓DRW,GA,GX,ren,zj,za,refs,z7,cst,zm,isC,bin,una,z6,zd,blt,asArg,zg,zc,zf,z1,zn,unN,ze,zk,zb,GS,simprocAttr,zo,c,hget,zi,hb]
  | false =>
   rw[hpb]at hb;simp (disch:=omega) only[↓GO,↓DRW,GA,GX,ren,zj,za,refs,z7,cst,zm,isC,bin,una,z6,zd,blt,asArg,zg,zc,zf,z1,zn,unN,ze,zk,zb,GS,simprocAttr,zo,c,hget,zi,hb];rw[e1,IH];simp
theorem jQ (g:Nat)(caps:List T)(p:Str→Bool)(es:List Str)(hl:es.length≤4611686018427387904)(hp:∀ x∈es,zr (EV prog pol) g (.t (.str x)::caps.map .t)=some (.t (.bool (p x)))) :
 zr (EV prog pol) 140 [.t (.list 1 (strs es)),.t (.fn g caps)]=some (.t (.int .i64 (ixI (vM p es 0)))):=by
 have IH:=qH g caps p es hl hp es [] rfl;simp only[List.length_nil,Int.natCast_zero]at IH;apply zu;refine zx rfl func140 rfl (by kernel_rfl) ?_;unfold Tryz.f140
 cases hf:vM p es 0 with
 | none=>rw[hf]at IH;simp only[↓GO,↓DRW,GA,GX,ren,zj,za,refs,z7,cst,zm,isC,bin,una,z6,zd,blt,asArg,zg,zc,zf,z1,zn,unN,ze,zk,zb,GS,simprocAttr,zo,IH,ixI]
 | some i=>rw[hf]at IH;simp only[↓GO,↓DRW,GA,GX,ren,zj,za,refs,z7,cst,zm,isC,bin,una,z6,zd,blt,asArg,zg,zc,zf,z1,zn,unN,ze,zk,zb,GS,simprocAttr,zo,IH,ixI]
structure Cmp {α:Type} (p:α→Prop) (c:α→α→Int):Prop where
 anti:∀ x y,p x→p y→c y x = - c x y
 trans:∀ x y z,p x→p y→p z→c x y<0→c y z<0→c x z<0
 sep:∀ x y,p x→p y→c x y=0→x=y
theorem Cmp.refl {α:Type}{p:α→Prop}{c:α→α→Int}(h:Cmp p c){x:α}(hx:p x):c x x=0:=by
 have:=h.anti x x hx hx;omega
theorem Cmp.RI {α β:Type}{p:β→Prop}{c:β→β→Int}(h:Cmp p c)(f:α→β)(q:α→Prop)(hp:∀ x,q x→p (f x))(hi:∀ x y,q x→q y→f x=f y→x=y):Cmp q fun x y=>c (f x) (f y) :=
 ⟨fun x y hx hy=>h.anti _ _ (hp x hx) (hp y hy),fun x y z hx hy hz=>h.trans _ _ _ (hp x hx) (hp y hy) (hp z hz),fun x y hx hy e=>hi x y hx hy (h.sep _ _ (hp x hx) (hp y hy) e)⟩
theorem Cmp.lex {α β:Type}{p:α→Prop}{q:β→Prop}{c:α→α→Int}{d:β→β→Int}(h:Cmp p c)(k:Cmp q d):Cmp (fun x:α×β=>p x.1∧q x.2) fun x y=>cond (c x.1 y.1==0) (d x.2 y.2) (c x.1 y.1):=by
 refine⟨fun x y hx hy=>?_,fun x y z hx hy hz h1 h2=>?_,fun x y hx hy e=>?_⟩
 · have ha:=h.anti x.1 y.1 hx.1 hy.1
   cases hc:(c x.1 y.1==0) with
   | true =>
    have h0:c x.1 y.1=0:=by simpa using hc
    rw[ha,h0,show ((-0:Int)==0)=true from rfl,cond_true,cond_true];exact k.anti _ _ hx.2 hy.2
   | false =>
    have h0:c x.1 y.1≠0:=by simpa using hc
    have h1:(c y.1 x.1==0)=false:=by rw[beq_eq_false_iff_ne,ha];omega
    rw[h1,cond_false,cond_false,ha]
 · cases hxy:(c x.1 y.1==0) with
   | true =>
    have e1:=h.sep _ _ hx.1 hy.1 (by simpa using hxy);rw[hxy,cond_true]at h1;rw[e1]
    cases hyz:(c y.1 z.1==0) with
    | true=>rw[hyz,cond_true]at h2;rw[cond_true];exact k.trans _ _ _ hx.2 hy.2 hz.2 h1 h2
    | false=>rw[hyz,cond_false]at h2;rw[cond_false];exact h2
   | false =>
    rw[hxy,cond_false]at h1
    cases hyz:(c y.1 z.1==0) with
    | true =>
     have e1:=h.sep _ _ hy.1 hz.1 (by simpa using hyz);rw[← e1,hxy,cond_false];exact h1
    | false =>
     rw[hyz,cond_false]at h2;have h3:=h.trans _ _ _ hx.1 hy.1 hz.1 h1 h2;have:(c x.1 z.1==0)=false:=by rw[beq_eq_false_iff_ne];omega
     rw[this,cond_false];exact h3
 · cases hc:(c x.1 y.1==0) with
   | true =>
    rw[hc,cond_true]at e;have e1:=h.sep _ _ hx.1 hy.1 (by simpa using hc);have e2:=k.sep _ _ hx.2 hy.2 e;exact Prod.ext e1 e2
   | false=>rw[hc,cond_false]at e;rw[e]at hc;cases hc
theorem th {a b:Int}:xe a b<0↔a<b:=by
 unfold xe
 by_cases h1:a<b
 · simp[h1]
 · by_cases h2:b<a
   · simp[h1,h2]
   · simp[h1,h2]
theorem tP (a b:Int):xe b a = - xe a b:=by
 unfold xe
 by_cases h1:a<b
 · have h2:¬ b<a:=by omega
   simp[h1,h2]
 · by_cases h2:b<a
   · simp[h1,h2]
   · simp[h1,h2]
theorem wH:Cmp (fun _=>True) xe :=
 ⟨fun x y _ _=>tP x y,fun x y z _ _ _ h1 h2=>by rw[th]at *;omega,fun x y _ _ e=>by have:=uA x y;rw[e]at this;simpa using this.symm⟩
theorem Sv {a b:Str}:qN a b<0↔Op.bytesLess a b=true:=by
 unfold qN
 cases Op.bytesLess a b with
 | true=>simp
 | false=>cases (a==b)<;>simp
theorem nP:Cmp (fun _=>True) qN:=by
 refine⟨fun x y _ _=>?_,fun x y z _ _ _ h1 h2=>?_,fun x y _ _ e=>?_⟩
 · unfold qN
   cases h1:Op.bytesLess x y with
   | true =>
    have h2:Op.bytesLess y x=false:=by
     cases h:Op.bytesLess y x with
     | false=>rfl
     | true=>have:=wG h1 h;rw[wI]at this;cases this
    have h3:(y==x)=false:=by
     rw[beq_eq_false_iff_ne];intro e;subst e;rw[wI]at h1;cases h1
    rw[h2,h3];rfl
   | false =>
    cases h2:Op.bytesLess y x with
    | true =>
     have h3:(x==y)=false:=by
      rw[beq_eq_false_iff_ne];intro e;subst e;rw[wI]at h2;cases h2
     rw[h3];rfl
    | false =>
     have:=rr h1 h2;subst this;simp
 · rw[Sv]at *;exact wG h1 h2
 · unfold qN at e
   cases h1:Op.bytesLess x y with
   | true=>rw[h1]at e;cases e
   | false =>
    rw[h1]at e
    cases h2:(x==y) with
    | true=>simpa using h2
    | false=>rw[h2]at e;cases e
theorem tO:Cmp (fun _=>True) tg:=by
 have inj:∀ {x y:Str},0≤zN x→zN x=zN y→x=y:=fun {x y} h e=>by
  have h1:=(vT h).2.1;have h2:=(vT (s:=y) (by rw[← e];exact h)).2.1;rw[← h1,← h2,e]
 refine⟨fun x y _ _=>?_,fun x y z _ _ _ h1 h2=>?_,fun x y _ _ e=>?_⟩
 · unfold tg
   cases decide (zN x≥0)<;>cases decide (zN y≥0)<;>simp only[Bool.and_true,Bool.and_false,Bool.true_and,Bool.false_and,cond_true,cond_false]
   all_goals first|exact nP.anti x y trivial trivial|exact tP _ _|rfl
 · unfold tg at *
   cases hx:decide (zN x≥0)<;>cases hy:decide (zN y≥0)<;>cases hz:decide (zN z≥0)<;>simp only[hx,hy,hz,Bool.and_true,Bool.and_false,Bool.true_and,Bool.false_and,cond_true,cond_false]at *
   all_goals first|exact nP.trans x y z trivial trivial trivial h1 h2|exact wH.trans _ _ _ trivial trivial trivial h1 h2|omega
 · unfold tg at e
   cases hx:decide (zN x≥0)<;>cases hy:decide (zN y≥0)<;>simp only[hx,hy,Bool.and_true,Bool.and_false,Bool.true_and,Bool.false_and,cond_true,cond_false]at e
   all_goals try omega
   · exact nP.sep x y trivial trivial e
   · exact inj (of_decide_eq_true hx) (wH.sep _ _ trivial trivial e)
theorem sv (a b:Str)(l m:List Str):ua (a::l) (b::m)=cond (tg a b==0) (ua l m) (tg a b):=by
 unfold ua;rw[tk]
 cases (tg a b==0) with
 | true =>
  simp only[cond_true,List.length_cons]
  cases tk l m with
  | some x=>rfl
  | none =>
   simp only[Option.getD_none];unfold xe;rw[show decide (((l.length+1:Nat):Int)<((m.length+1:Nat):Int))=decide ((l.length:Int)<(m.length:Int)) by rw[Bool.eq_iff_iff];simp,
    show decide (((l.length+1:Nat):Int) > ((m.length+1:Nat):Int))=decide ((l.length:Int) > (m.length:Int)) by rw[Bool.eq_iff_iff];simp]
 | false=>rfl
theorem rX (m:List Str):ua [] m=xe 0 (m.length:Int):=by unfold ua tk;rfl
theorem vF (l:List Str):ua l []=xe (l.length:Int) 0:=by unfold ua tk;cases l<;>rfl
theorem kH:∀ l m:List Str,ua m l = - ua l m
 | [],m=>by rw[rX,vF];exact tP _ _
 | a::l,[]=>by rw[rX,vF];exact tP _ _
 | a :: l, b :: m => by
  have h:=tO.anti a b trivial trivial;rw[sv,sv]
  cases hc:(tg a b==0) with
  | true =>
   have h0:tg a b=0:=by simpa using hc
   rw[h,h0,show ((-0:Int)==0)=true from rfl,cond_true,cond_true];exact kH l m
  | false =>
   have h0:tg a b≠0:=by simpa using hc
   have h1:(tg b a==0)=false:=by rw[beq_eq_false_iff_ne,h];omega
   rw[h1,cond_false,cond_false,h]
theorem gB:∀ l m:List Str,ua l m=0→l=m
 | [],m,e=>by
  rw[rX]at e;have:=wH.sep _ _ trivial trivial e
  cases m with
  | nil=>rfl
  | cons b m=>simp at this;omega
 | a::l,[],e=>by
  rw[vF]at e;have:=wH.sep _ _ trivial trivial e;simp at this;omega
 | a :: l, b :: m, e => by
  rw[sv]at e
  cases hc:(tg a b==0) with
  | true =>
   rw[hc,cond_true]at e;rw[tO.sep a b trivial trivial (by simpa using hc),gB l m e]
  | false=>rw[hc,cond_false]at e;rw[e]at hc;cases hc
theorem mQ:∀ l m k:List Str,ua l m<0→ua m k<0→ua l k<0
 | [],[],k,h1,h2=>h2
 | [],b::m,[],h1,h2=>by rw[vF,th]at h2;simp at h2;omega
 | [],b::m,c::k,h1,h2=>by rw[rX,th];simp
 | a::l,[],k,h1,h2=>by rw[vF,th]at h1;simp at h1;omega
 | a::l,b::m,[],h1,h2=>by rw[vF,th]at h2;simp at h2;omega
 | a :: l, b :: m, c :: k, h1, h2 => by
  rw[sv]at *
  cases hxy:(tg a b==0) with
  | true =>
   have e1:=tO.sep a b trivial trivial (by simpa using hxy);subst e1;rw[hxy,cond_true]at h1
   cases hyz:(tg a c==0) with
   | true=>rw[hyz,cond_true]at h2;rw[cond_true];exact mQ l m k h1 h2
   | false=>rw[hyz,cond_false]at h2;rw[cond_false];exact h2
  | false =>
   rw[hxy,cond_false]at h1
   cases hyz:(tg b c==0) with
   | true =>
    have e1:=tO.sep b c trivial trivial (by simpa using hyz);subst e1;rw[hxy,cond_false];exact h1
   | false =>
    rw[hyz,cond_false]at h2;have h3:=tO.trans a b c trivial trivial trivial h1 h2;have:(tg a c==0)=false:=by rw[beq_eq_false_iff_ne];omega
    rw[this,cond_false];exact h3
def Xk (a b:List Str):Int:=cond (a==[]||b==[]) (xe (b.length:Int) (a.length:Int)) (ua a b)
theorem aE:Cmp (fun _=>True) Xk:=by
 refine⟨fun x y _ _=>?_,fun x y z _ _ _ h1 h2=>?_,fun x y _ _ e=>?_⟩
 · unfold Xk;rw[Bool.or_comm]
   cases (x==[]||y==[]) with
   | true=>exact tP _ _
   | false=>exact kH x y
 · unfold Xk at *
   cases x with
   | nil =>
    simp only[beq_self_eq_true,Bool.true_or,cond_true,th,List.length_nil]at h1;omega
   | cons a x =>
    cases y with
    | nil =>
     simp only[beq_self_eq_true,Bool.true_or,cond_true,th,List.length_nil]at h2;omega
    | cons b y =>
     cases z with
     | nil =>
      simp only[beq_self_eq_true,Bool.or_true,cond_true,th,List.length_nil,List.length_cons];omega
     | cons c z =>
      rw[show ((a::x==[])||(b::y==[]))=false from rfl,cond_false]at h1;rw[show ((b::y==[])||(c::z==[]))=false from rfl,cond_false]at h2;rw[show ((a::x==[])||(c::z==[]))=false from rfl,cond_false];exact mQ _ _ _ h1 h2
 · unfold Xk at e
   cases x with
   | nil =>
    simp only[beq_self_eq_true,Bool.true_or,cond_true,List.length_nil]at e;have:=wH.sep _ _ trivial trivial e
    cases y with
    | nil=>rfl
    | cons b y=>simp at this;omega
   | cons a x =>
    cases y with
    | nil =>
     simp only[beq_self_eq_true,Bool.or_true,cond_true,List.length_nil]at e;have:=wH.sep _ _ trivial trivial e;simp at this;omega
    | cons b y =>
     rw[show ((a::x==[])||(b::y==[]))=false from rfl,cond_false]at e;exact gB _ _ e
theorem XY:Cmp (fun _=>True) kG:=by
 have h:=(wH.lex (wH.lex (wH.lex aE))).RI (fun v:Ver=>(v.maj,v.min,v.pat,v.pre)) (fun _=>True) (fun _ _=>⟨trivial,trivial,trivial,trivial⟩) (fun x y _ _ e=>by
  obtain⟨a,b,c,d⟩:=x;obtain⟨a',b',c',d'⟩:=y;simp only[Prod.mk.injEq]at e;obtain⟨rfl,rfl,rfl,rfl⟩:=e;rfl)
 exact h
def xM (s t:Str):Int:=kG (zJ s).1 (zJ t).1
theorem yN:Cmp (fun s=>isV s=true) xM :=
 XY.RI (fun s=>(zJ s).1) _ (fun _ _=>trivial) fun x y hx hy e=>by
  have h1:=(xf hx).2.1;have h2:=(xf hy).2.1;rw[← h1,← h2,e]
def qP (l:List Str):Prop:=l.Pairwise fun x y=>xM x y<0
def X4 (l:List Str):Prop:=∀ s∈l,isV s=true
theorem qP.uniq:∀ {a b:List Str},X4 a→X4 b→qP a→qP b→(∀ s,s∈a↔s∈b)→a=b
 | [],[],_,_,_,_,_=>rfl
 | [],y::b,_,_,_,_,h=>by have:=(h y).2 (by simp);simp at this
 | x::a,[],_,_,_,_,h=>by have:=(h x).1 (by simp);simp at this
 | x :: a, y :: b, va, vb, h1, h2, h => by
  obtain⟨p1,p2⟩:=List.pairwise_cons.1 h1;obtain⟨q1,q2⟩:=List.pairwise_cons.1 h2
  have hxy : x = y := by
   rcases List.mem_cons.1 ((h x).1 (by simp)) with e|m1
   · exact e
   · rcases List.mem_cons.1 ((h y).2 (by simp)) with e|m2
     · exact e.symm
     · have a1:=p1 y m2;have a2:=q1 x m1;have:=yN.anti x y (va x (by simp)) (vb y (by simp));omega
  subst hxy;have hx:=va x (by simp);have hr:=yN.refl hx;rw[qP.uniq (fun s hs=>va s (by simp[hs])) (fun s hs=>vb s (by simp[hs])) p2 q2 fun s=>?_];constructor
  · intro hs;rcases List.mem_cons.1 ((h s).1 (by simp[hs])) with rfl|m
    · have:=p1 s hs;omega
    · exact m
  · intro hs;rcases List.mem_cons.1 ((h s).2 (by simp[hs])) with rfl|m
    · have:=q1 s hs;omega
    · exact m
def xP:List Str→Str→Nat
 | [],_=>0
 | x::r,s=>cond (decide (xM x s≥0)) 0 (xP r s+1)
def YV (l:List Str)(s:Str):Bool:=l[xP l s]? == some s
def sK (l:List Str)(s:Str):List Str:=cond (YV l s) l (l.take (xP l s)++s::l.drop (xP l s))
theorem fF:∀ (l:List Str) (s:Str),xP l s≤l.length
 | [],s=>by simp[xP]
 | x::r,s=>by
  have:=fF r s;rw[xP]
  cases decide (xM x s≥0) with
  | true=>simp
  | false=>simp only[cond_false,List.length_cons];omega
theorem iQ (x:Str)(r:List Str)(s:Str):sK (x::r) s=cond (decide (xM x s≥0)) (cond (x==s) (x::r) (s::x::r)) (x::sK r s):=by
 unfold sK YV;rw[xP]
 cases decide (xM x s≥0) with
 | true =>
  simp only[cond_true,List.getElem?_cons_zero,List.take_zero,List.drop_zero,List.nil_append];rfl
 | false =>
  simp only[cond_false,List.getElem?_cons_succ,List.take_succ_cons,List.drop_succ_cons,List.cons_append]
  cases (r[xP r s]? == some s)<;>rfl
theorem rz:∀ (l:List Str) (s y:Str),y∈sK l s↔y∈l∨y=s
 | [],s,y=>by simp[sK,YV,xP]
 | x :: r, s, y => by
  rw[iQ]
  cases decide (xM x s≥0) with
  | true =>
   rw[cond_true]
   cases h2:(x==s) with
   | true =>
    have:x=s:=by simpa using h2
    subst this;simp only[cond_true,List.mem_cons];exact⟨fun h=>.inl h,fun h=>h.elim id fun e=>.inl e⟩
   | false =>
    rw[cond_false];simp only[List.mem_cons];constructor
    · rintro (h|h|h)
      · exact .inr h
      · exact .inl (.inl h)
      · exact .inl (.inr h)
    · rintro ((h|h)|h)
      · exact .inr (.inl h)
      · exact .inr (.inr h)
      · exact .inl h
  | false =>
   rw[cond_false];simp only[List.mem_cons,rz r s y,or_assoc]
theorem cO:∀ (l:List Str) (s:Str),X4 l→isV s=true→qP l→qP (sK l s)
 | [],s,_,_,_=>by simp[sK,YV,xP,qP]
 | x :: r, s, hv, hs, h => by
  obtain⟨p1,p2⟩:=List.pairwise_cons.1 h;have hx:=hv x (by simp);rw[iQ]
  cases h1:decide (xM x s≥0) with
  | true =>
   rw[cond_true]
   cases h2:(x==s) with
   | true=>exact h
   | false =>
    rw[cond_false];have h3:=of_decide_eq_true h1;have h4:xM x s≠0:=fun e=>by rw[yN.sep x s hx hs e]at h2;simp at h2
    have h5:=yN.anti x s hx hs;refine List.pairwise_cons.2 ⟨fun y hy=>?_,h⟩;rcases List.mem_cons.1 hy with rfl|hy
    · omega
    · exact yN.trans s x y hs hx (hv y (by simp[hy])) (by omega) (p1 y hy)
  | false =>
   rw[cond_false];have h3:=of_decide_eq_false h1;refine List.pairwise_cons.2 ⟨fun y hy=>?_,cO r s (fun z hz=>hv z (by simp[hz])) hs p2⟩;rcases (rz r s y).1 hy with hy|rfl
   · exact p1 y hy
   · omega
def xL:List Str→List Str→List Str
 | out,[]=>out
 | out,s::r=>xL (cond (isV s) (sK out s) out) r
theorem uw:∀ (l out:List Str),X4 out→qP out→X4 (xL out l)∧qP (xL out l)∧∀ y,y∈xL out l↔y∈out∨(y∈l∧isV y=true)
 | [],out,h1,h2=>⟨h1,h2,fun y=>by simp[xL]⟩
 | s :: r, out, h1, h2 => by
  rw[xL]
  cases hs:isV s with
  | true =>
   rw[cond_true];obtain⟨k1,k2,k3⟩:=uw r (sK out s) (fun y hy=>by
    rcases (rz out s y).1 hy with hy|rfl
    · exact h1 y hy
    · exact hs) (cO out s h1 hs h2)
   refine⟨k1,k2,fun y=>?_⟩;rw[k3,rz];simp only[List.mem_cons];constructor
   · rintro ((h|rfl)|⟨h,hv⟩)
     · exact .inl h
     · exact .inr ⟨.inl rfl,hs⟩
     · exact .inr ⟨.inr h,hv⟩
   · rintro (h|⟨rfl|h,hv⟩)
     · exact .inl (.inl h)
     · exact .inl (.inr rfl)
     · exact .inr ⟨h,hv⟩
  | false =>
   rw[cond_false];obtain⟨k1,k2,k3⟩:=uw r out h1 h2;refine⟨k1,k2,fun y=>?_⟩;rw[k3];simp only[List.mem_cons];constructor
   · rintro (h|⟨h,hv⟩)
     · exact .inl h
     · exact .inr ⟨.inr h,hv⟩
   · rintro (h|⟨rfl|h,hv⟩)
     · exact .inl h
     · rw[hs]at hv;cases hv
     · exact .inr ⟨h,hv⟩
def u9:List Str→List Str
 | []=>[]
 | [x]=>[x]
 | x::y::r=>cond (x==y) (u9 (y::r)) (x::u9 (y::r))
theorem vJ:∀ (l:List Str) (s:Str),s∈u9 l↔s∈l
 | [],s=>Iff.rfl
 | [x],s=>Iff.rfl
 | x :: y :: r, s => by
  rw[u9];have ih:=vJ (y::r) s
  cases h:(x==y) with
  | true =>
   have:x=y:=by simpa using h
   subst this;rw[cond_true,ih];simp
  | false=>rw[cond_false,List.mem_cons,ih,List.mem_cons (a:=s) (b:=x)]
theorem gA:∀ (l:List Str),X4 l→(l.Pairwise fun x y=>xM x y≤0)→qP (u9 l)
 | [],_,_=>by simp[u9,qP]
 | [x],_,_=>by simp[u9,qP]
 | x :: y :: r, hv, h => by
  obtain⟨p1,p2⟩:=List.pairwise_cons.1 h;have ih:=gA (y::r) (fun s hs=>hv s (by simp at hs ⊢;right;exact hs)) p2;rw[u9]
  cases hxy:(x==y) with
  | true=>exact ih
  | false =>
   rw[cond_false];refine List.pairwise_cons.2 ⟨fun z hz=>?_,ih⟩;rw[vJ]at hz;have hx:=hv x (by simp);have hy:=hv y (by simp);have h1:=p1 y (by simp);have h2:xM x y≠0:=fun e=>by rw[yN.sep x y hx hy e]at hxy;simp at hxy
   rcases List.mem_cons.1 hz with rfl|hz'
   · omega
   · have h3:=(List.pairwise_cons.1 p2).1 z hz';have hzv:=hv z (by simp[hz'])
     by_cases h4:xM y z=0
     · rw[← yN.sep y z hy hzv h4];omega
     · exact yN.trans x y z hx hy hzv (by omega) (by omega)
theorem Xw (l m:List Str)(hp:m.Perm (l.filter isV))(hm:m.Pairwise fun x y=>xM x y≤0):u9 m=xL [] l:=by
 obtain⟨k1,k2,k3⟩:=uw l [] (fun s hs=>by simp at hs) (by simp[qP]);have hv:X4 m:=fun s hs=>by
  have:=hp.mem_iff.1 hs;exact (List.mem_filter.1 this).2
 refine qP.uniq (fun s hs=>hv s ((vJ m s).1 hs)) k1 (gA m hv hm) k2 fun s=>?_
 rw[vJ,hp.mem_iff,List.mem_filter,k3];simp
structure zw where
 kind:Int
 name:List UInt8
 old:List UInt8
 new:List UInt8
def zw.enc (x:zw):List T:=[.int .i64 x.kind,.str x.name,.str x.old,.str x.new]
def zw.zq (l:List zw):List (List T):=l.map zw.enc
theorem zw.tM (cs:List zw)(c:zw):zw.zq (cs++[c])=zw.zq cs++[c.enc]:=by simp[zw.zq]
def zw.y0 (x:zw):Nat:=x.name.length+x.old.length+x.new.length
def zw.yp:List zw→Nat
 | []=>0
 | c::cs=>zw.y0 c+zw.yp cs
def zw.ok (x:zw):Prop:=x.name.length≤9223372036854775807∧x.old.length≤9223372036854775807∧x.new.length≤9223372036854775807
theorem zw.uo (x:zw):x.enc.length=4:=rfl
theorem zw.vo (x:zw):x.enc.take 4=x.enc:=rfl
theorem zw.zz (cs:List zw):(zw.zq cs).length=cs.length:=by simp[zw.zq]
theorem zw.vn (cs:List zw)(i:Nat)(h:i<cs.length):(zw.zq cs)[i]? = some cs[i].enc:=by simp[zw.zq,h]
theorem zw.yK:∀ {cs:List zw} {c:zw},c∈cs→c.y0≤zw.yp cs
 | c'::cs,c,h=>by
  simp only[zw.yp];rcases List.mem_cons.1 h with rfl|h
  · omega
  · have:=zw.yK h;omega
def qQ (l:List Str):Prop:=l.Pairwise fun x y=>Op.bytesLess x y=true
theorem Qi {x y:Str}(h:Op.bytesLess x y=true):Op.bytesLess y x=false:=by
 cases h2:Op.bytesLess y x with
 | false=>rfl
 | true=>have:=wG h h2;rw[wI]at this;cases this
theorem qQ.uniq:∀ {a b:List Str},qQ a→qQ b→(∀ s,s∈a↔s∈b)→a=b
 | [],[],_,_,_=>rfl
 | [],y::b,_,_,h=>by have:=(h y).2 (by simp);simp at this
 | x::a,[],_,_,h=>by have:=(h x).1 (by simp);simp at this
 | x :: a, y :: b, h1, h2, h => by
  obtain⟨p1,p2⟩:=List.pairwise_cons.1 h1;obtain⟨q1,q2⟩:=List.pairwise_cons.1 h2
  have hxy : x = y := by
   rcases List.mem_cons.1 ((h x).1 (by simp)) with e|m1
   · exact e
   · rcases List.mem_cons.1 ((h y).2 (by simp)) with e|m2
     · exact e.symm
     · have a1:=Qi (p1 y m2);have a2:=q1 x m1;rw[a2]at a1;cases a1
  subst hxy;rw[qQ.uniq p2 q2 fun s=>?_];constructor
  · intro hs;rcases List.mem_cons.1 ((h s).1 (by simp[hs])) with rfl|m
    · have:=p1 s hs;rw[wI]at this;cases this
    · exact m
  · intro hs;rcases List.mem_cons.1 ((h s).2 (by simp[hs])) with rfl|m
    · have:=q1 s hs;rw[wI]at this;cases this
    · exact m
theorem ju:∀ (l:List Str) (s y:Str),y∈vD l s↔y∈l∨y=s
 | [],s,y=>by simp[vD]
 | x :: r, s, y => by
  rw[vD]
  cases h1:Op.bytesLess x s with
  | true=>rw[cond_true,List.mem_cons,ju r s y,List.mem_cons,or_assoc]
  | false =>
   rw[cond_false]
   cases h2:(x==s) with
   | true =>
    have:x=s:=by simpa using h2
    subst this;rw[cond_true,List.mem_cons];constructor
    · exact .inl
    · rintro (h|h)
      · exact h
      · exact .inl h
   | false=>rw[cond_false,List.mem_cons];exact Or.comm
theorem gL:∀ (l:List Str) (s:Str),qQ l→qQ (vD l s)
 | [],s,_=>by simp[vD,qQ]
 | x :: r, s, h => by
  have h':=List.pairwise_cons.1 h;rw[vD]
  cases h1:Op.bytesLess x s with
  | true =>
   simp only[cond_true];refine List.pairwise_cons.2 ⟨fun y hy=>?_,gL r s h'.2⟩;rcases (ju r s y).1 hy with hy|rfl
   · exact h'.1 y hy
   · exact h1
  | false =>
   simp only[cond_false]
   cases h2:(x==s) with
   | true=>exact h
   | false =>
    simp only[cond_false];have hsx:Op.bytesLess s x=true:=by
     cases h3:Op.bytesLess s x with
     | true=>rfl
     | false=>rw[rr h1 h3]at h2;simp at h2
    refine List.pairwise_cons.2 ⟨fun y hy=>?_,h⟩;rcases List.mem_cons.1 hy with rfl|hy
    · exact hsx
    · exact wG hsx (h'.1 y hy)
def xo (out l:List Str):List Str:=l.foldl vD out
theorem uY (out:List Str)(x:Str)(l:List Str):xo out (x::l)=xo (vD out x) l:=rfl
theorem aP (out l m:List Str):xo out (l++m)=xo (xo out l) m:=List.foldl_append
theorem gM:∀ (l out:List Str),qQ out→qQ (xo out l)∧∀ y,y∈xo out l↔y∈out∨y∈l
 | [],out,h=>⟨h,fun y=>by simp[xo]⟩
 | x::l,out,h=>by
  obtain⟨k1,k2⟩:=gM l (vD out x) (gL out x h);refine⟨k1,fun y=>?_⟩;rw[uY,k2,ju,List.mem_cons,or_assoc]
theorem pt:∀ (l out:List Str),(xo out l).length≤out.length+l.length
 | [],out=>by simp[xo]
 | x :: l, out => by
  have h:=pt l (vD out x);have h2:(vD out x).length≤out.length+1:=by
   cases hc:yV out x with
   | false=>rw[(nS out x hc).length_eq];simp
   | true =>
    clear h
    induction out with
    | nil=>simp[vD]
    | cons y r ih =>
     rw[vD]
     cases Op.bytesLess y x with
     | true =>
      simp only[cond_true,List.length_cons]
      cases hr:yV r x with
      | true=>have:=ih hr;omega
      | false=>rw[(nS r x hr).length_eq];simp
     | false=>cases (y==x)<;>simp
  rw[uY,List.length_cons];omega
theorem kE:∀ (l:List Str),Asc l→qQ (u9 l)
 | [],_=>by simp[u9,qQ]
 | [x],_=>by simp[u9,qQ]
 | x :: y :: r, h => by
  obtain⟨p1,p2⟩:=List.pairwise_cons.1 h;have ih:=kE (y::r) p2;rw[u9]
  cases hxy:(x==y) with
  | true=>exact ih
  | false =>
   rw[cond_false];have hlt:Op.bytesLess x y=true:=by
    cases h3:Op.bytesLess x y with
    | true=>rfl
    | false=>rw[rr h3 (p1 y (by simp))]at hxy;simp at hxy
   refine List.pairwise_cons.2 ⟨fun z hz=>?_,ih⟩;rw[vJ]at hz;rcases List.mem_cons.1 hz with rfl|hz'
   · exact hlt
   · have h3:=(List.pairwise_cons.1 p2).1 z hz'
     cases h4:Op.bytesLess y z with
     | true=>exact wG hlt h4
     | false=>rw[← rr h4 h3];exact hlt
def tq (l:List Str):List Str:=u9 (wy l)
theorem lH (l:List Str):tq l=xo [] l:=by
 obtain⟨k1,k2⟩:=gM l [] (by simp[qQ]);refine qQ.uniq (kE _ (Xy l)) k1 fun s=>?_
 unfold tq;rw[vJ,(qT l).mem_iff,k2];simp
theorem lI (l:List Str)(s:Str):s∈tq l↔s∈l:=by
 unfold tq;rw[vJ,(qT l).mem_iff]
def woS (a b:List Str):List Str:=a.filter fun s=>!(yV b s)
theorem l8 (a b:List Str):(woS a b).length≤a.length:=List.length_filter_le _ _
def u5 (name:Str)(old new:List Str)(i:Nat):zw :=
 match old[i]?,new[i]? with
 | some o,some n=>cond (decide (xM o n<0)) ⟨2,name,o,n⟩ ⟨3,name,o,n⟩
 | some o,none=>⟨1,name,o,[]⟩
 | none,some n=>⟨0,name,[],n⟩
 | none,none=>⟨3,name,[],[]⟩
def gQ (name:Str)(old new:List Str):List zw:=(List.range (max old.length new.length)).map (u5 name old new)
theorem s7 (name:Str)(old new:List Str):(gQ name old new).length=max old.length new.length:=by simp[gQ]
def xh (l:List zH):List (List Str):=l.map fun s=>[s.alg,s.bytes]
def wg (p q:z8):Bool:=p.name==q.name&&(p.version==q.version&&(p.source==q.source&&(p.dev==q.dev&&((xh p.sums==xh q.sums)&&(p.zB==q.zB)))))
def vj (b:zy)(p:z8):List zw :=
 match sf b.packs (keyOf p) with
 | some q=>cond (wg p q) [] [⟨4,p.name,p.version,p.version⟩]
 | none=>[]
def yR (a b:zy):List Str:=tq ((a.packs++b.packs).map (·.name))
theorem RC (a b:List Str)(hl:a.length≤4194304):∀ (ra rb pa pb:List Str),a=pa++ra→b=pb++rb→pa.length=pb.length→ra.length=rb.length →
 EV prog pol (.loop 65 58 0 [.t (.list 1 (strs a)),.t (.list 1 (strs b)),.t (.int .i64 (a.length:Int)),.t (.int .i64 (pa.length:Int))] [])=some (cond (ra==rb) (.loop (.exit 0) [.bad] []) (.loop .ret [.t (.bool false)] []))
 | [],[],pa,pb,ha,hb,hp,hr=>by
  have c:decide ((pa.length:Int)<(a.length:Int))=false:=by simp[ha]
  rw[show (([]:List Str)==[])=true from rfl,cond_true];refine zh func65 rfl rfl ?_;simp (disch:=(try simp only[LL]);omega) only[↓GO,↓DRW,GA,GX,ren,zj,za,refs,z7,cst,zm,isC,bin,una,z6,zd,blt,asArg,zg,zc,zf,z1,zn,unN,ze,zk,zb,GS,simprocAttr,GZ,c,zA]
 | [],_::_,pa,pb,ha,hb,hp,hr=>by simp at hr
 | _::_,[],pa,pb,ha,hb,hp,hr=>by simp at hr
 | x :: ra, y :: rb, pa, pb, ha, hb, hp, hr => by
  have c:decide ((pa.length:Int)<(a.length:Int))=true:=by simp[ha];omega
  have hg1:(strs a)[pa.length]? = some [.str x]:=x9 (by rw[ha];simp);have hg2:(strs b)[pa.length]? = some [.str y]:=x9 (by rw[hb,hp];simp);have hlen:pa.length+ra.length+1≤a.length:=by rw[ha];simp;omega
  have IH:=RC a b hl ra rb (pa++[x]) (pb++[y]) (by rw[ha];simp) (by rw[hb];simp) (by simp[hp]) (by simpa using hr);rw[show ((pa++[x]).length:Int)=(pa.length:Int)+1 by simp]at IH;rw[List.cons_beq_cons];clear ha hb
  cases q:(x==y) with
  | true =>
   rw[Bool.true_and];refine zh func65 rfl rfl ?_;simp (disch:=(try simp only[LL]);omega) only[↓GO,↓DRW,GA,GX,ren,zj,za,refs,z7,cst,zm,isC,bin,una,z6,zd,blt,asArg,zg,zc,zf,z1,zn,unN,ze,zk,zb,GS,simprocAttr,GZ,c,hg1,hg2,q,bne,Bool.not_true,zi,zA,IH]
  | false =>
   rw[Bool.false_and,cond_false];refine zh func65 rfl rfl ?_;simp (disch:=(try simp only[LL]);omega) only[↓GO,↓DRW,GA,GX,ren,zj,za,refs,z7,cst,zm,isC,bin,una,z6,zd,blt,asArg,zg,zc,zf,z1,zn,unN,ze,zk,zb,GS,simprocAttr,GZ,c,hg1,hg2,q,bne,Bool.not_false,zi,zA]
theorem VC {a b:List Str}(h:a.length≠b.length):(a==b)=false:=by
 rw[beq_eq_false_iff_ne];intro e;exact h (by rw[e])
theorem c_eqI (a b:List Str)(hl:a.length≤4194304):zr (EV prog pol) 65 [.t (.list 1 (strs a)),.t (.list 1 (strs b))]=some (.t (.bool (a==b))):=by
 by_cases hn:a.length=b.length
 · have L:=RC a b hl a b [] [] rfl rfl rfl hn;simp only[List.length_nil,Int.natCast_zero]at L;have c:((a.length:Int) != (b.length:Int))=false:=by rw[hn];simp
   cases q:(a==b)<;>rw[q]at L<;>simp only[cond_true,cond_false]at L
   all_goals
    apply zu;refine zx rfl func65 rfl (by kernel_rfl) ?_;unfold Tryz.f65;simp (disch:=(try simp only[LL]);omega) only[↓GO,↓DRW,GA,GX,ren,zj,za,refs,z7,cst,zm,isC,bin,una,z6,zd,blt,asArg,zg,zc,zf,z1,zn,unN,ze,zk,zb,GS,simprocAttr,GZ,L,zo,c,zA]
 · have c:((a.length:Int) != (b.length:Int))=true:=by simp;omega
   rw[VC hn];apply zu;refine zx rfl func65 rfl (by kernel_rfl) ?_;unfold Tryz.f65;simp (disch:=(try simp only[LL]);omega) only[↓GO,↓DRW,GA,GX,ren,zj,za,refs,z7,cst,zm,isC,bin,una,z6,zd,blt,asArg,zg,zc,zf,z1,zn,unN,ze,zk,zb,GS,simprocAttr,GZ,zo,c,zA]
theorem Rz (a b:List Str)(hl:a.length≤4194304):∀ (ra rb pa pb:List Str),a=pa++ra→b=pb++rb→pa.length=pb.length→ra.length=rb.length →
 EV prog pol (.loop 76 58 0 [.t (.list 1 (strs a)),.t (.list 1 (strs b)),.t (.int .i64 (pa.length:Int))] [])=some (cond (ra==rb) (.loop (.exit 0) [.bad] []) (.loop .ret [.t (.bool false)] []))
 | [],[],pa,pb,ha,hb,hp,hr=>by
  have c:decide ((pa.length:Int)<(a.length:Int))=false:=by simp[ha]
  rw[show (([]:List Str)==[])=true from rfl,cond_true];refine zh func76 rfl rfl ?_;simp (disch:=(try simp only[LL]);omega) only[↓GO,↓DRW,GA,GX,ren,zj,za,refs,z7,cst,zm,isC,bin,una,z6,zd,blt,asArg,zg,zc,zf,z1,zn,unN,ze,zk,zb,GS,simprocAttr,GZ,c,zo,zA]
 | [],_::_,pa,pb,ha,hb,hp,hr=>by simp at hr
 | _::_,[],pa,pb,ha,hb,hp,hr=>by simp at hr
 | x :: ra, y :: rb, pa, pb, ha, hb, hp, hr => by
  have c:decide ((pa.length:Int)<(a.length:Int))=true:=by simp[ha];omega
  have hg1:(strs a)[pa.length]? = some [.str x]:=x9 (by rw[ha];simp);have hg2:(strs b)[pa.length]? = some [.str y]:=x9 (by rw[hb,hp];simp);have hlen:pa.length+ra.length+1≤a.length:=by rw[ha];simp;omega
  have IH:=Rz a b hl ra rb (pa++[x]) (pb++[y]) (by rw[ha];simp) (by rw[hb];simp) (by simp[hp]) (by simpa using hr);rw[show ((pa++[x]).length:Int)=(pa.length:Int)+1 by simp]at IH;rw[List.cons_beq_cons];clear ha hb
  cases q:(x==y) with
  | true =>
   rw[Bool.true_and];refine zh func76 rfl rfl ?_;simp (disch:=(try simp only[LL]);omega) only[↓GO,↓DRW,GA,GX,ren,zj,za,refs,z7,cst,zm,isC,bin,una,z6,zd,blt,asArg,zg,zc,zf,z1,zn,unN,ze,zk,zb,GS,simprocAttr,GZ,c,hg1,hg2,zo,q,bne,Bool.not_true,zi,zA,IH]
  | false =>
   rw[Bool.false_and,cond_false];refine zh func76 rfl rfl ?_;simp (disch:=(try simp only[LL]);omega) only[↓GO,↓DRW,GA,GX,ren,zj,za,refs,z7,cst,zm,isC,bin,una,z6,zd,blt,asArg,zg,zc,zf,z1,zn,unN,ze,zk,zb,GS,simprocAttr,GZ,c,hg1,hg2,zo,q,bne,Bool.not_false,zi,zA]
theorem c_eqR (a b:List Str)(hl:a.length≤4194304):zr (EV prog pol) 76 [.t (.list 1 (strs a)),.t (.list 1 (strs b))]=some (.t (.bool (a==b))):=by
 by_cases hn:a.length=b.length
 · have L:=Rz a b hl a b [] [] rfl rfl rfl hn;simp only[List.length_nil,Int.natCast_zero]at L;have c:((a.length:Int) != (b.length:Int))=false:=by rw[hn];simp
   cases q:(a==b)<;>rw[q]at L<;>simp only[cond_true,cond_false]at L
   all_goals
    apply zu;refine zx rfl func76 rfl (by kernel_rfl) ?_;unfold Tryz.f76;simp (disch:=(try simp only[LL]);omega) only[↓GO,↓DRW,GA,GX,ren,zj,za,refs,z7,cst,zm,isC,bin,una,z6,zd,blt,asArg,zg,zc,zf,z1,zn,unN,ze,zk,zb,GS,simprocAttr,GZ,L,zo,c,zA]
 · have c:((a.length:Int) != (b.length:Int))=true:=by simp;omega
   have hf:(a==b)=false:=by rw[beq_eq_false_iff_ne];intro e;exact hn (by rw[e])
   rw[hf];apply zu;refine zx rfl func76 rfl (by kernel_rfl) ?_;unfold Tryz.f76;simp (disch:=(try simp only[LL]);omega) only[↓GO,↓DRW,GA,GX,ren,zj,za,refs,z7,cst,zm,isC,bin,una,z6,zd,blt,asArg,zg,zc,zf,z1,zn,unN,ze,zk,zb,GS,simprocAttr,GZ,zo,c,zA]
theorem wq (x:zH)(r:List zH):xh (x::r)=[x.alg,x.bytes]::xh r:=rfl
theorem ur (l:List zH):(xh l).length=l.length:=by simp[xh]
theorem nX {l:List zH}{i:Nat}{s:zH}(h:l[i]? = some s):(zH.zq l)[i]? = some [.str s.alg,.str s.bytes]:=by simp[zH.zq,zH.enc,h]
theorem Ur (a b:List zH)(hl:a.length≤4194304):∀ (ra rb pa pb:List zH),a=pa++ra→b=pb++rb→pa.length=pb.length→ra.length=rb.length →
 EV prog pol (.loop 145 58 0 [.t (.list 2 (zH.zq a)),.t (.list 2 (zH.zq b)),.t (.int .i64 (a.length:Int)),.t (.int .i64 (pa.length:Int))] [])=some (cond (xh ra==xh rb) (.loop (.exit 0) [.bad] []) (.loop .ret [.t (.bool false)] []))
 | [],[],pa,pb,ha,hb,hp,hr=>by
  have c:decide ((pa.length:Int)<(a.length:Int))=false:=by simp[ha]
  rw[show (xh []==xh [])=true from rfl,cond_true];refine zh func145 rfl rfl ?_;simp (disch:=(try simp only[LL]);omega) only[↓GO,↓DRW,GA,GX,ren,zj,za,refs,z7,cst,zm,isC,bin,una,z6,zd,blt,asArg,zg,zc,zf,z1,zn,unN,ze,zk,zb,GS,simprocAttr,GZ,c,zA]
 | [],_::_,pa,pb,ha,hb,hp,hr=>by simp at hr
 | _::_,[],pa,pb,ha,hb,hp,hr=>by simp at hr
 | x :: ra, y :: rb, pa, pb, ha, hb, hp, hr => by
  have c:decide ((pa.length:Int)<(a.length:Int))=true:=by simp[ha];omega
  have hg1:(zH.zq a)[pa.length]? = some [.str x.alg,.str x.bytes]:=nX (by rw[ha];simp);have hg2:(zH.zq b)[pa.length]? = some [.str y.alg,.str y.bytes]:=nX (by rw[hb,hp];simp);have hlen:pa.length+ra.length+1≤a.length:=by rw[ha];simp;omega
  have IH:=Ur a b hl ra rb (pa++[x]) (pb++[y]) (by rw[ha];simp) (by rw[hb];simp) (by simp[hp]) (by simpa using hr);rw[show ((pa++[x]).length:Int)=(pa.length:Int)+1 by simp]at IH;rw[wq,wq,List.cons_beq_cons];clear ha hb
  cases q:([x.alg,x.bytes]==[y.alg,y.bytes]) with
  | true =>
   rw[Bool.true_and];refine zh func145 rfl rfl ?_;simp (disch:=(try simp only[LL]);omega) only[↓GO,↓DRW,GA,GX,ren,zj,za,refs,z7,cst,zm,isC,bin,una,z6,zd,blt,asArg,zg,zc,zf,z1,zn,unN,ze,zk,zb,GS,simprocAttr,GZ,c,hg1,hg2,q,bne,Bool.not_true,zi,zA,IH,List.length_cons,List.length_nil,Nat.zero_add,Nat.reduceAdd,and_self,if_true]
  | false =>
   rw[Bool.false_and,cond_false];refine zh func145 rfl rfl ?_;simp (disch:=(try simp only[LL]);omega) only[↓GO,↓DRW,GA,GX,ren,zj,za,refs,z7,cst,zm,isC,bin,una,z6,zd,blt,asArg,zg,zc,zf,z1,zn,unN,ze,zk,zb,GS,simprocAttr,GZ,c,hg1,hg2,q,bne,Bool.not_false,zi,zA,List.length_cons,List.length_nil,Nat.zero_add,Nat.reduceAdd,and_self,if_true]
theorem QH (a b:List zH)(hl:a.length≤4194304):zr (EV prog pol) 145 [.t (.list 2 (zH.zq a)),.t (.list 2 (zH.zq b))]=some (.t (.bool (xh a==xh b))):=by
 by_cases hn:a.length=b.length
 · have L:=Ur a b hl a b [] [] rfl rfl rfl hn;simp only[List.length_nil,Int.natCast_zero]at L;have c:((a.length:Int) != (b.length:Int))=false:=by rw[hn];simp
   cases q:(xh a==xh b)<;>rw[q]at L<;>simp only[cond_true,cond_false]at L
   all_goals
    apply zu;refine zx rfl func145 rfl (by kernel_rfl) ?_;unfold Tryz.f145;simp (disch:=(try simp only[LL]);omega) only[↓GO,↓DRW,GA,GX,ren,zj,za,refs,z7,cst,zm,isC,bin,una,z6,zd,blt,asArg,zg,zc,zf,z1,zn,unN,ze,zk,zb,GS,simprocAttr,GZ,L,zH.zz,c,zA]
 · have c:((a.length:Int) != (b.length:Int))=true:=by simp;omega
   have hf:(xh a==xh b)=false:=by rw[beq_eq_false_iff_ne];intro e;exact hn (by rw[← ur a,e,ur])
   rw[hf];apply zu;refine zx rfl func145 rfl (by kernel_rfl) ?_;unfold Tryz.f145;simp (disch:=(try simp only[LL]);omega) only[↓GO,↓DRW,GA,GX,ren,zj,za,refs,z7,cst,zm,isC,bin,una,z6,zd,blt,asArg,zg,zc,zf,z1,zn,unN,ze,zk,zb,GS,simprocAttr,GZ,zH.zz,c,zA]
theorem tI {p:z8}{n:Nat}(h:p.y0≤n):p.sums.length≤n∧p.zB.length≤n:=by
 simp only[z8.y0]at h;omega
theorem c_spI (p q:z8)(hp:p.y0≤1048576):zr (EV prog pol) 90 [.agg (p.enc.map .t),.agg (q.enc.map .t)]=some (.t (.bool (wg p q))):=by
 obtain⟨hp1,hp2⟩:=tI hp;have d1:=QH p.sums q.sums (by omega);have d2:=c_eqI p.zB q.zB (by omega);unfold wg;obtain⟨name,version,source,sums,dev,zB⟩:=p;obtain⟨name',version',source',sums',dev',needs'⟩:=q;simp only[z8.enc,List.map_cons,List.map_nil]at d1 d2 ⊢;clear hp hp1 hp2;apply zu;refine zx rfl func90 rfl (by kernel_rfl) ?_;unfold Tryz.f90
 cases q1:(name==name') with
 | false=>simp (disch:=(try simp only[LL]);omega) only[↓GO,↓DRW,GA,GX,ren,zj,za,refs,z7,cst,zm,isC,bin,una,z6,zd,blt,asArg,zg,zc,zf,z1,zn,unN,ze,zk,zb,GS,simprocAttr,GZ,q1,zA,Bool.false_and]
 | true =>
  cases q2:(version==version') with
  | false=>simp (disch:=(try simp only[LL]);omega) only[↓GO,↓DRW,GA,GX,ren,zj,za,refs,z7,cst,zm,isC,bin,una,z6,zd,blt,asArg,zg,zc,zf,z1,zn,unN,ze,zk,zb,GS,simprocAttr,GZ,q1,q2,zA,Bool.false_and,Bool.true_and]
  | true =>
   cases q3:(source==source') with
   | false=>simp (disch:=(try simp only[LL]);omega) only[↓GO,↓DRW,GA,GX,ren,zj,za,refs,z7,cst,zm,isC,bin,una,z6,zd,blt,asArg,zg,zc,zf,z1,zn,unN,ze,zk,zb,GS,simprocAttr,GZ,q1,q2,q3,zA,Bool.false_and,Bool.true_and]
   | true =>
    cases q4:(dev==dev') with
    | false=>simp (disch:=(try simp only[LL]);omega) only[↓GO,↓DRW,GA,GX,ren,zj,za,refs,z7,cst,zm,isC,bin,una,z6,zd,blt,asArg,zg,zc,zf,z1,zn,unN,ze,zk,zb,GS,simprocAttr,GZ,q1,q2,q3,q4,zA,Bool.false_and,Bool.true_and]
    | true =>
     cases q5:(xh sums==xh sums') with
     | false=>rw[q5]at d1;simp (disch:=(try simp only[LL]);omega) only[↓GO,↓DRW,GA,GX,ren,zj,za,refs,z7,cst,zm,isC,bin,una,z6,zd,blt,asArg,zg,zc,zf,z1,zn,unN,ze,zk,zb,GS,simprocAttr,GZ,q1,q2,q3,q4,d1,zA,Bool.false_and,Bool.true_and]
     | true=>rw[q5]at d1;simp (disch:=(try simp only[LL]);omega) only[↓GO,↓DRW,GA,GX,ren,zj,za,refs,z7,cst,zm,isC,bin,una,z6,zd,blt,asArg,zg,zc,zf,z1,zn,unN,ze,zk,zb,GS,simprocAttr,GZ,q1,q2,q3,q4,d1,d2,zA,Bool.true_and]
theorem Rr (p q:z8)(hp:p.y0≤1048576):∀ (ra rb pa pb:List zH),p.sums=pa++ra→q.sums=pb++rb→pa.length=pb.length→ra.length=rb.length →
 EV prog pol (.loop 93 58 0 [.ptr 0 0 0,.ptr 1 0 0,.t (.int .i64 (pa.length:Int))] [.vs 6 [p.enc.map .t],.vs 6 [q.enc.map .t]])=some (cond (xh ra==xh rb) (.loop (.exit 0) [.bad] []) (.loop .ret [.t (.bool false)] []))
 | [],[],pa,pb,ha,hb,hpl,hr=>by
  have c:decide ((pa.length:Int)<(p.sums.length:Int))=false:=by simp[ha]
  rw[show (xh []==xh [])=true from rfl,cond_true];obtain⟨name,version,source,sums,dev,zB⟩:=p;obtain⟨name',version',source',sums',dev',needs'⟩:=q;simp only[z8.enc,List.map_cons,List.map_nil]at c ⊢;refine zh func93 rfl rfl ?_;simp (disch:=(try simp only[LL]);omega) only[↓GO,↓DRW,GA,GX,ren,zj,za,refs,z7,cst,zm,isC,bin,una,z6,zd,blt,asArg,zg,zc,zf,z1,zn,unN,ze,zk,zb,GS,simprocAttr,GZ,c,zH.zz,zA]
 | [],_::_,pa,pb,ha,hb,hpl,hr=>by simp at hr
 | _::_,[],pa,pb,ha,hb,hpl,hr=>by simp at hr
 | x :: ra, y :: rb, pa, pb, ha, hb, hpl, hr => by
  have c:decide ((pa.length:Int)<(p.sums.length:Int))=true:=by simp[ha];omega
  have hg1:(zH.zq p.sums)[pa.length]? = some [.str x.alg,.str x.bytes]:=nX (by rw[ha];simp);have hg2:(zH.zq q.sums)[pa.length]? = some [.str y.alg,.str y.bytes]:=nX (by rw[hb,hpl];simp);have hlen:pa.length+ra.length+1≤p.sums.length:=by rw[ha];simp;omega
  have hsl:=(tI hp).1;have IH:=Rr p q hp ra rb (pa++[x]) (pb++[y]) (by rw[ha];simp) (by rw[hb];simp) (by simp[hpl]) (by simpa using hr);rw[show ((pa++[x]).length:Int)=(pa.length:Int)+1 by simp]at IH;rw[wq,wq,List.cons_beq_cons];clear ha hb hp;obtain⟨name,version,source,sums,dev,zB⟩:=p;obtain⟨name',version',source',sums',dev',needs'⟩:=q;simp only[z8.enc,List.map_cons,List.map_nil]at c hg1 hg2 hlen hsl IH ⊢
  cases q1:([x.alg,x.bytes]==[y.alg,y.bytes]) with
  | true =>
   rw[Bool.true_and];refine zh func93 rfl rfl ?_;simp (disch:=(try simp only[LL]);omega) only[↓GO,↓DRW,GA,GX,ren,zj,za,refs,z7,cst,zm,isC,bin,una,z6,zd,blt,asArg,zg,zc,zf,z1,zn,unN,ze,zk,zb,GS,simprocAttr,GZ,c,hg1,hg2,q1,zH.zz,bne,Bool.not_true,zi,zA,IH,List.length_cons,List.length_nil,Nat.zero_add,Nat.reduceAdd,and_self,if_true]
  | false =>
   rw[Bool.false_and,cond_false];refine zh func93 rfl rfl ?_;simp (disch:=(try simp only[LL]);omega) only[↓GO,↓DRW,GA,GX,ren,zj,za,refs,z7,cst,zm,isC,bin,una,z6,zd,blt,asArg,zg,zc,zf,z1,zn,unN,ze,zk,zb,GS,simprocAttr,GZ,c,hg1,hg2,q1,zH.zz,bne,Bool.not_false,zi,zA,List.length_cons,List.length_nil,Nat.zero_add,Nat.reduceAdd,and_self,if_true]
theorem c_spR (p q : z8) (hp : p.y0 ≤ 1048576) : zr (EV prog pol) 93 [.agg (p.enc.map .t), .agg (q.enc.map .t)] = some (.t (.bool (wg p q))) := by
 obtain⟨hp1,hp2⟩:=tI hp;have d2:=c_eqR p.zB q.zB (by omega);have L:p.sums.length=q.sums.length→_:=Rr p q hp p.sums q.sums [] [] rfl rfl rfl;have hne:p.sums.length≠q.sums.length→(xh p.sums==xh q.sums)=false:=fun hn=>by rw[beq_eq_false_iff_ne];intro e;exact hn (by rw[← ur p.sums,e,ur])
 unfold wg;clear hp;obtain⟨name,version,source,sums,dev,zB⟩:=p;obtain⟨name',version',source',sums',dev',needs'⟩:=q;simp only[z8.enc,List.map_cons,List.map_nil,List.length_nil,Int.natCast_zero]at L d2 hne ⊢;apply zu;refine zx rfl func93 rfl (by kernel_rfl) ?_;unfold Tryz.f93
 cases q1:(name==name') with
 | false=>simp (disch:=(try simp only[LL]);omega) only[↓GO,↓DRW,GA,GX,ren,zj,za,refs,z7,cst,zm,isC,bin,una,z6,zd,blt,asArg,zg,zc,zf,z1,zn,unN,ze,zk,zb,GS,simprocAttr,GZ,q1,zA,bne,Bool.not_false,Bool.false_and]
 | true =>
  cases q2:(version==version') with
  | false=>simp (disch:=(try simp only[LL]);omega) only[↓GO,↓DRW,GA,GX,ren,zj,za,refs,z7,cst,zm,isC,bin,una,z6,zd,blt,asArg,zg,zc,zf,z1,zn,unN,ze,zk,zb,GS,simprocAttr,GZ,q1,q2,zA,bne,Bool.not_false,Bool.not_true,Bool.false_and,Bool.true_and]
  | true =>
   cases q3:(source==source') with
   | false=>simp (disch:=(try simp only[LL]);omega) only[↓GO,↓DRW,GA,GX,ren,zj,za,refs,z7,cst,zm,isC,bin,una,z6,zd,blt,asArg,zg,zc,zf,z1,zn,unN,ze,zk,zb,GS,simprocAttr,GZ,q1,q2,q3,zA,bne,Bool.not_false,Bool.not_true,Bool.false_and,Bool.true_and]
   | true =>
    cases q4:(dev==dev') with
    | false=>simp (disch:=(try simp only[LL]);omega) only[↓GO,↓DRW,GA,GX,ren,zj,za,refs,z7,cst,zm,isC,bin,una,z6,zd,blt,asArg,zg,zc,zf,z1,zn,unN,ze,zk,zb,GS,simprocAttr,GZ,q1,q2,q3,q4,zA,bne,Bool.not_false,Bool.not_true,Bool.false_and,Bool.true_and]
    | true =>
     by_cases hn:sums.length=sums'.length
     · have c:((sums.length:Int)==(sums'.length:Int))=true:=by rw[hn];simp
       have L':=L hn
       cases q6:(zB==needs') with
       | false=>rw[q6]at d2;simp (disch:=(try simp only[LL]);omega) only[↓GO,↓DRW,GA,GX,ren,zj,za,refs,z7,cst,zm,isC,bin,una,z6,zd,blt,asArg,zg,zc,zf,z1,zn,unN,ze,zk,zb,GS,simprocAttr,GZ,q1,q2,q3,q4,c,d2,zH.zz,zA,bne,Bool.not_false,Bool.not_true,Bool.true_and,Bool.and_false]
       | true =>
        rw[q6]at d2
        cases q5:(xh sums==xh sums')<;>rw[q5]at L'<;>simp only[cond_true,cond_false]at L'
        all_goals simp (disch:=(try simp only[LL]);omega) only[↓GO,↓DRW,GA,GX,ren,zj,za,refs,z7,cst,zm,isC,bin,una,z6,zd,blt,asArg,zg,zc,zf,z1,zn,unN,ze,zk,zb,GS,simprocAttr,GZ,q1,q2,q3,q4,c,d2,L',zH.zz,zA,bne,Bool.not_false,Bool.not_true,Bool.true_and,Bool.and_true]
     · have c:((sums.length:Int)==(sums'.length:Int))=false:=by simp;omega
       rw[hne hn];simp (disch:=(try simp only[LL]);omega) only[↓GO,↓DRW,GA,GX,ren,zj,za,refs,z7,cst,zm,isC,bin,una,z6,zd,blt,asArg,zg,zc,zf,z1,zn,unN,ze,zk,zb,GS,simprocAttr,GZ,q1,q2,q3,q4,c,zH.zz,zA,bne,Bool.not_false,Bool.not_true,Bool.true_and,Bool.false_and]
theorem dt (x:Str)(r b:List Str):woS (x::r) b=cond (yV b x) (woS r b) (x::woS r b):=by
 unfold woS;rw[List.filter_cons]
 cases yV b x<;>rfl
theorem Tb (a b:List Str)(ha:a.length≤1048576)(hb:b.length≤1048576):∀ (rest pre:List Str) (acc:List Str) (m:Nat) (cap:Option Nat),a=pre++rest→m=acc.length→m+rest.length≤1073741824→∃ cap',
 EV prog pol (.loop 157 58 0 [.t (.list 1 (strs a)),.t (.list 1 (strs b)),.sl 0 0 m cap,.t (.int .i64 (pre.length:Int))] [.ts 1 (strs acc)])
  = some (.loop (.exit 0) [.sl 0 0 (acc++woS rest b).length cap'] [.ts 1 (strs (acc++woS rest b))])
 | [],pre,acc,m,cap,h,hm,hmM=>by
  have c:decide ((pre.length:Int)<(a.length:Int))=false:=by simp[h]
  refine⟨cap,?_⟩;rw[show woS [] b=[] from rfl,List.append_nil,← hm];refine zh func157 rfl rfl ?_;simp (disch:=(try simp only[LL]);omega) only[↓GO,↓DRW,GA,GX,ren,zj,za,refs,z7,cst,zm,isC,bin,una,z6,zd,blt,asArg,zg,zc,zf,z1,zn,unN,ze,zk,zb,GS,simprocAttr,GZ,c,zo,zA]
 | x :: rest, pre, acc, m, cap, h, hm, hmM => by
  have c:decide ((pre.length:Int)<(a.length:Int))=true:=by simp[h];omega
  have hget:(strs a)[pre.length]? = some [.str x]:=x9 (by rw[h];simp);have hlen:pre.length+rest.length+1≤a.length:=by rw[h];simp;omega
  have hsl:(strs acc).length=m:=by rw[zo,hm]
  have d1:=Xn b (by omega) x;simp only[List.length_cons]at hmM;rw[dt]
  cases q:yV b x with
  | true =>
   rw[q]at d1;obtain⟨cap',IH⟩:=Tb a b ha hb rest (pre++[x]) acc m cap (by rw[h];simp) hm (by omega);rw[show ((pre++[x]).length:Int)=(pre.length:Int)+1 by simp]at IH;refine⟨cap',?_⟩;rw[cond_true];clear h;generalize acc++woS rest b=Z at *;refine zh func157 rfl rfl ?_;simp (disch:=(try simp only[LL]);omega) only[↓GO,↓DRW,GA,GX,ren,zj,za,refs,z7,cst,zm,isC,bin,una,z6,zd,blt,asArg,zg,zc,zf,z1,zn,unN,ze,zk,zb,GS,simprocAttr,GZ,c,hget,d1,zo,zi,Bool.not_true,zA,IH]
  | false =>
   rw[q]at d1;obtain⟨cap',IH⟩:=Tb a b ha hb rest (pre++[x]) (acc++[x]) (m+1) none (by rw[h];simp) (by simp[hm]) (by omega);rw[show ((pre++[x]).length:Int)=(pre.length:Int)+1 by simp]at IH;rw[show strs (acc++[x])=strs acc++[[.str x]] by simp[strs]]at IH;refine⟨cap',?_⟩;rw[cond_false,show acc++x::woS rest b=(acc++[x])++woS rest b by simp];clear h;generalize (acc++[x])++woS rest b=Z at *;refine zh func157 rfl rfl ?_;simp (disch:=(try simp only[LL]);omega) only[↓GO,↓DRW,GA,GX,ren,zj,za,refs,z7,cst,zm,isC,bin,una,z6,zd,blt,asArg,zg,zc,zf,z1,zn,unN,ze,zk,zb,GS,simprocAttr,GZ,c,hget,d1,zo,hsl,zi,Bool.not_false,zA,IH,y6]
theorem RR (a b:List Str)(ha:a.length≤1048576)(hb:b.length≤1048576):zr (EV prog pol) 157 [.t (.list 1 (strs a)),.t (.list 1 (strs b))]=some (.t (.list 1 (strs (woS a b)))):=by
 obtain⟨cap,L⟩:=Tb a b ha hb a [] [] 0 (some 0) rfl rfl (by omega);have ht:(strs (woS a b)).take (woS a b).length=strs (woS a b):=by rw[← zo (woS a b)];simp
 simp only[List.length_nil,Int.natCast_zero,show strs []=[] from rfl,List.nil_append]at L;generalize woS a b=Z at *;apply zu;refine zx rfl func157 rfl (by kernel_rfl) ?_;unfold Tryz.f157;simp (disch:=(try simp only[LL]);omega) only[↓GO,↓DRW,GA,GX,ren,zj,za,refs,z7,cst,zm,isC,bin,una,z6,zd,blt,asArg,zg,zc,zf,z1,zn,unN,ze,zk,zb,GS,simprocAttr,GZ,L,ht,zA]
theorem ku {α:Type}(p:α→Bool):∀ (l:List α) (n i:Nat),vM p l n=some i→∃ pre x post,l=pre++x::post∧n+pre.length=i∧p x=true∧∀ y∈pre,p y=false
 | [],n,i,h=>by cases h
 | x::r,n,i,h=>by
  rw[vM]at h
  split at h
  · rename_i hx
    cases h;exact⟨[],x,r,rfl,rfl,hx,fun y hy=>by simp at hy⟩
  · rename_i hx;obtain⟨pre,y,post,e1,e2,e3,e4⟩:=ku p r (n+1) i h;refine⟨x::pre,y,post,by rw[e1];rfl,by simp;omega,e3,fun z hz=>?_⟩;rcases List.mem_cons.1 hz with rfl|hz
    · simpa using hx
    · exact e4 z hz
theorem RL (b:List Str)(hb:b.length≤1048576)(x:Str):zr (EV prog pol) 156 [.t (.str x),.t (.fp [.list 1 (strs b)])]=some (.t (.bool (yV b x))):=by
 have d1:=c_con b hb x;apply zu;refine zx rfl func156 rfl (by kernel_rfl) ?_;unfold Tryz.f156;simp (disch:=(try simp only[LL]);omega) only[↓GO,↓DRW,GA,GX,ren,zj,za,refs,z7,cst,zm,isC,bin,una,z6,zd,blt,asArg,zg,zc,zf,z1,zn,unN,ze,zk,zb,GS,simprocAttr,GZ,d1,zA]
theorem Tc (l b:List Str)(hl:l.length≤1048576)(hb:b.length≤1048576)(cap:Option Nat)(n:Nat)(hn:n=l.length):∀ (R K J:List Str),1≤J.length→K.length+J.length+R.length=l.length→∃ J',(K++woS R b).length+J'.length=l.length ∧ 
 EV prog pol (.loop 56 122 2 [.sl 0 0 n cap,.fn 156 [.ptr 1 0 0],.t (.int .i64 (K.length:Int)),.t (.int .i64 ((K.length+J.length:Nat):Int))] [.ts 1 (strs (K++J++R)),.vs 1 [[.t (.list 1 (strs b))]]])
  = some (.loop (.exit 0) [.sl 0 0 n cap,.t (.int .i64 ((K++woS R b).length:Int))] [.ts 1 (strs (K++woS R b++J')),.vs 1 [[.t (.list 1 (strs b))]]])
 | [],K,J,hJ,hlen=>by
  have c:decide (((K.length+J.length:Nat):Int)<(n:Int))=false:=by simp at hlen;apply decide_eq_false;omega
  refine⟨J,by simp at hlen;simpa [woS] using hlen,?_⟩;rw[show woS [] b=[] from rfl];simp only[List.append_nil];refine zh func56 rfl rfl ?_;simp (disch:=(try simp only[LL]);omega) only[↓GO,↓DRW,GA,GX,ren,zj,za,refs,z7,cst,zm,isC,bin,una,z6,zd,blt,asArg,zg,zc,zf,z1,zn,unN,ze,zk,zb,GS,simprocAttr,zD,zE,yG,yA,yD,yC,yH,gh1,yz,yr,yu,zR,mkO,yn,yf,yg,mvC,unO,zX,yF,yB,yw,zI,yx,yv,zY,oc,oTs,oT,zQ,zQ.rowTs,yt,isL,E.BX,GZ,c,zA]
 | x :: R, K, J, hJ, hlen => by
  simp only[List.length_cons]at hlen;have c:decide (((K.length+J.length:Nat):Int)<(n:Int))=true:=by apply decide_eq_true;omega
  have c0:decide ((0:Int)≤((K.length+J.length:Nat):Int))=true:=by apply decide_eq_true;omega
  have c1:decide ((0:Int)≤(K.length:Int))=true:=by apply decide_eq_true;omega
  have c2:decide ((K.length:Int)<(n:Int))=true:=by apply decide_eq_true;omega
  have hget:(strs (K++J++x::R))[K.length+J.length]? = some [.str x]:=x9 (by rw[← List.length_append];simp);have d1:=RL b hb x;rw[dt]
  cases q:yV b x with
  | true =>
   rw[q]at d1;obtain⟨J',hJ',IH⟩:=Tc l b hl hb cap n hn R K (J++[x]) (by simp) (by simp;omega);rw[show K++(J++[x])++R=K++J++x::R by simp,show ((K.length+(J++[x]).length:Nat):Int)=((K.length+J.length:Nat):Int)+1 by simp;omega]at IH;refine⟨J',hJ',?_⟩;rw[cond_true];generalize strs (K++J++x::R)=E0 at *;generalize K++woS R b=Z at *;generalize hkj:K.length+J.length=kj at *;refine zh func56 rfl rfl ?_;simp (disch:=(try simp only[LL]);omega) only[↓GO,↓DRW,GA,GX,ren,zj,za,refs,z7,cst,zm,isC,bin,una,z6,zd,blt,asArg,zg,zc,zf,z1,zn,unN,ze,zk,zb,GS,simprocAttr,zD,zE,yG,yA,yD,yC,yH,gh1,yz,yr,yu,zR,mkO,yn,yf,yg,mvC,unO,zX,yF,yB,yw,zI,yx,yv,zY,oc,oTs,oT,zQ,zQ.rowTs,yt,isL,E.BX,GZ,c,c0,hget,d1,zi,Bool.not_true,zA,IH]
  | false =>
   rw[q]at d1;obtain⟨j0,Jt,rfl⟩:∃ j0 Jt,J=j0::Jt:=by cases J with|nil=>simp at hJ|cons a t=>exact⟨a,t,rfl⟩
   obtain⟨J',hJ',IH⟩:=Tc l b hl hb cap n hn R (K++[x]) (Jt++[x]) (by simp) (by simp at hlen ⊢;omega);have hset:(strs (K++j0::Jt++x::R)).set K.length [.str x]=strs (K++[x]++(Jt++[x])++R):=by
    have e1:strs (K++j0::Jt++x::R)=strs K++[.str j0]::strs (Jt++x::R):=by simp[strs]
    have e2:strs (K++[x]++(Jt++[x])++R)=strs K++[.str x]::strs (Jt++x::R):=by simp[strs]
    rw[e1,e2,List.set_append_right _ _ (by rw[zo];exact Nat.le_refl _),zo,Nat.sub_self];rfl
   have hg0:(strs (K++j0::Jt++x::R))[K.length]? = some [.str j0]:=x9 (by simp);rw[show ((K++[x]).length:Int)=(K.length:Int)+1 by simp,show (((K++[x]).length+(Jt++[x]).length:Nat):Int)=((K.length+(j0::Jt).length:Nat):Int)+1 by simp;omega]at IH;refine⟨J',by rw[cond_false];simpa using hJ',?_⟩;rw[cond_false,show K++x::woS R b=K++[x]++woS R b by simp];rw[← hset]at IH;clear hset hJ';generalize strs (K++j0::Jt++x::R)=E0 at *;generalize K++[x]++woS R b=Z at *;have hkj2:K.length+(j0::Jt).length≤1048576:=by omega
   generalize hkj:K.length+(j0::Jt).length=kj at *;have hkl:K.length≤1048576:=by omega
   generalize K.length=kl at *;refine zh func56 rfl rfl ?_;simp (disch:=(try simp only[LL]);omega) only[↓GO,↓DRW,GA,GX,ren,zj,za,refs,z7,cst,zm,isC,bin,una,z6,zd,blt,asArg,zg,zc,zf,z1,zn,unN,ze,zk,zb,GS,simprocAttr,zD,zE,yG,yA,yD,yC,yH,gh1,yz,yr,yu,zR,mkO,yn,yf,yg,mvC,unO,zX,yF,yB,yw,zI,yx,yv,zY,oc,oTs,oT,zQ,zQ.rowTs,yt,isL,E.BX,GZ,c,c0,c1,c2,hget,hg0,d1,zi,Bool.not_false,zA,IH]
theorem qw {b l:List Str}(h:vM (fun x=>yV b x) l 0=none):woS l b=l:=by
 have h2:=oz (fun x=>yV b x) l 0;rw[h]at h2;unfold woS;refine List.filter_eq_self.2 fun x hx=>?_
 cases hc:yV b x with
 | false=>rfl
 | true =>
  have:l.any (fun x=>yV b x)=true:=List.any_eq_true.2 ⟨x,hx,hc⟩;rw[this]at h2;cases h2
theorem c_dfS (l b:List Str)(hl:l.length≤1048576)(hb:b.length≤1048576)(cap:Option Nat)(n:Nat)(hn:n=l.length):∃ J',(woS l b).length+J'.length=l.length ∧
 EV prog pol (.callO false 56 [.sl 0 0 n cap,.fn 156 [.ptr 1 0 0]] [.ts 1 (strs l),.vs 1 [[.t (.list 1 (strs b))]]])
  = some (.call (.sl 0 0 (woS l b).length cap) [.ts 1 (strs (woS l b++J')),.vs 1 [[.t (.list 1 (strs b))]]]):=by
 have d1:=jQ 156 [.fp [.list 1 (strs b)]] (fun x=>yV b x) l (by omega) (fun x _=>RL b hb x);have ht:(strs l).take n=strs l:=List.take_of_length_le (by rw[zo];omega)
 cases hf:vM (fun x=>yV b x) l 0 with
 | none =>
  rw[hf]at d1;refine⟨[],by rw[qw hf];simp,?_⟩;rw[qw hf,List.append_nil,← hn];simp only[ixI]at d1;refine zM func56 rfl (by kernel_rfl) ?_;unfold Tryz.f56;simp (disch:=(try simp only[LL]);omega) only[↓GO,↓DRW,GA,GX,ren,zj,za,refs,z7,cst,zm,isC,bin,una,z6,zd,blt,asArg,zg,zc,zf,z1,zn,unN,ze,zk,zb,GS,simprocAttr,zD,zE,yG,yA,yD,yC,yH,gh1,yz,yr,yu,zR,mkO,yn,yf,yg,mvC,unO,zX,yF,yB,yw,zI,yx,yv,zY,oc,oTs,oT,zQ,zQ.rowTs,yt,isL,E.BX,GZ,d1,ti,ht,beq_self_eq_true,zA]
 | some i =>
  rw[hf]at d1;obtain⟨pre,x,post,e1,e2,e3,e4⟩:=ku _ l 0 i hf;simp only[Nat.zero_add]at e2;have hw:woS l b=pre++woS post b:=by
   rw[e1];unfold woS;rw[List.filter_append,List.filter_cons,e3];simp only[Bool.not_true,Bool.false_eq_true,if_false]
   congr 1
   exact List.filter_eq_self.2 fun y hy=>by rw[e4 y hy];rfl
  have hlen:pre.length+1+post.length=l.length:=by have h9:=congrArg List.length e1;simp at h9;omega
  have hmap:Option.map (fun x:Nat=>x) cap=cap:=by cases cap<;>rfl
  obtain⟨J',hJ',L⟩:=Tc l b hl hb cap n hn post pre [x] (by simp) (by simpa using hlen);rw[show pre++[x]++post=l by rw[e1];simp,show ((pre.length+[x].length:Nat):Int)=(pre.length:Int)+1 by simp,e2]at L;have c0:((i:Int)==-1)=false:=by rw[beq_eq_false_iff_ne];omega
  have hwl:(woS l b).length≤n:=by rw[hn];exact l8 l b
  rw[← hw]at L hJ';have htk:(strs (woS l b++J')).take (woS l b).length=strs (woS l b):=by rw[show strs (woS l b++J')=strs (woS l b)++strs J' by simp[strs],← zo (woS l b)];simp
  have hdk:(strs (woS l b++J')).drop ((woS l b).length+(n - (woS l b).length))=[]:=List.drop_of_length_le (by rw[zo,List.length_append];omega);have hEl:(strs (woS l b++J')).length=n:=by rw[zo,List.length_append,hn];exact hJ'
  have hrp:strs (woS l b)++List.replicate (n - (woS l b).length) [.str []]=strs (woS l b++List.replicate (n - (woS l b).length) []):=by simp[strs]
  refine⟨List.replicate (n - (woS l b).length) [],by rw[List.length_replicate];omega,?_⟩;rw[← hrp];have hil:i≤1048576:=by omega
  have hnl:n≤1048576:=by omega
  simp only[ixI]at d1;clear hw hJ' hrp e1 hf e4 e3 hlen;generalize strs (woS l b++J')=E1 at *;generalize woS l b=Z at *;have c1:Z.length+(n - Z.length)≤n:=by omega
  refine zM func56 rfl (by kernel_rfl) ?_;unfold Tryz.f56;simp (disch:=(try simp only[LL]);omega) only[↓GO,↓DRW,GA,GX,ren,zj,za,refs,z7,cst,zm,isC,bin,una,z6,zd,blt,asArg,zg,zc,zf,z1,zn,unN,ze,zk,zb,GS,simprocAttr,zD,zE,yG,yA,yD,yC,yH,gh1,yz,yr,yu,zR,mkO,yn,yf,yg,mvC,unO,zX,yF,yB,yw,zI,yx,yv,zY,oc,oTs,oT,zQ,zQ.rowTs,yt,isL,E.BX,GZ,d1,ti,ht,c0,L,hEl,htk,hdk,zi,List.append_nil,zA,Nat.zero_add,Nat.sub_zero,c1,and_self,if_true,List.append_assoc,hmap]
theorem RJ (a b:List Str)(ha:a.length≤1048576)(hb:b.length≤1048576):zr (EV prog pol) 88 [.t (.list 1 (strs a)),.t (.list 1 (strs b))]=some (.t (.list 1 (strs (woS a b)))):=by
 have d1:=jl (strs a) (by rw[zo];omega);rw[zo]at d1;obtain⟨J',hJ,d2⟩:=c_dfS a b ha hb none a.length rfl;have ht:(strs (woS a b++J')).take (woS a b).length=strs (woS a b):=by rw[show strs (woS a b++J')=strs (woS a b)++strs J' by simp[strs],← zo (woS a b)];simp
 generalize strs (woS a b++J')=E1 at *;generalize woS a b=Z at *;apply zu;refine zx rfl func88 rfl (by kernel_rfl) ?_;unfold Tryz.f88;simp (disch:=(try simp only[LL]);omega) only[↓GO,↓DRW,GA,GX,ren,zj,za,refs,z7,cst,zm,isC,bin,una,z6,zd,blt,asArg,zg,zc,zf,z1,zn,unN,ze,zk,zb,GS,simprocAttr,GZ,d1,ti,d2,ht,zA]
def noR (J:List (List V)):Prop:=J.flatMap refs.refss=[]∧(∀ f:Nat→Option Nat,J.map (ren.rens f)=J)∧∀ e∈J,e.length=6
theorem TT {A B:List (List V)}(ha:noR A)(hb:noR B):noR (A++B):=⟨by rw[List.flatMap_append,ha.1,hb.1];rfl,fun f=>by rw[List.map_append,ha.2.1,hb.2.1],fun e he=>(List.mem_append.1 he).elim (ha.2.2 e) (hb.2.2 e)⟩
theorem wh (l:List z8):noR (ocE (z8.zq l)):=⟨od _,fun f=>lk f _,fun e he=>by
 unfold ocE z8.zq at he;simp only[List.map_map,List.mem_map]at he;obtain⟨x,_,rfl⟩:=he;rfl⟩
theorem WO {e:List V}{J:List (List V)}(h1:refs.refss e=[])(h2:∀ f,ren.rens f e=e)(h3:e.length=6)(hj:noR J):noR (e::J):=⟨by rw[List.flatMap_cons,h1,hj.1];rfl,fun f=>by rw[List.map_cons,h2,hj.2.1],fun x hx=>by
 rcases List.mem_cons.1 hx with rfl|hx
 · exact h3
 · exact hj.2.2 x hx⟩
theorem ZV:noR []:=⟨rfl,fun _=>rfl,fun e he=>by simp at he⟩
theorem pcons (x:z8)(r:List z8):ocE (z8.zq (x::r))=[V.t (.str x.name),.t (.str x.version),.t (.str x.source),.o (.list 2 (zH.zq x.sums)),.t (.bool x.dev),.o (.list 1 (strs x.zB))]::ocE (z8.zq r):=rfl
theorem kV (a b:List z8):ocE (z8.zq (a++b))=ocE (z8.zq a)++ocE (z8.zq b):=by simp[z8.zq,ocE]
def zG:List V:=[.nil 1,.nil 6]
theorem Zg (x:z8)(ho:x.y0≤1048576):zr (EV prog pol) 146 [.agg (x.enc.map .t)]=some (.agg (x.enc.map .t)):=by
 obtain⟨name,version,source,sums,dev,zB⟩:=x;simp only[z8.y0]at ho;have ht:(zH.zq sums).take sums.length=zH.zq sums:=by rw[← zH.zz sums];simp
 have ht2:(strs zB).take zB.length=strs zB:=by rw[← zo zB];simp
 simp only[z8.enc,List.map_cons,List.map_nil];apply zu;refine zx rfl func146 rfl (by kernel_rfl) ?_;unfold Tryz.f146;simp (disch:=(try simp only[LL]);omega) only[↓GO,↓DRW,GA,GX,ren,zj,za,refs,z7,cst,zm,isC,bin,una,z6,zd,blt,asArg,zg,zc,zf,z1,zn,unN,ze,zk,zb,GS,simprocAttr,GZ,ht,ht2,zo,zH.zz,zA,y6]
theorem Ut (top:List Str)(cs:List z8)(hl:cs.length≤1048576)(hkl:top.length≤1048576)(hb:∀ c∈cs,c.y0≤1048576):∀ (rest pre:List z8) (m:Nat),cs=pre++rest→m=pre.length →
 EV prog pol (.loop 70 58 0 [.ptr 0 0 0,.ptr 1 0 0,.ptr 2 0 0,.t (.int .i64 (pre.length:Int))] [.vs 2 [[.t (.list 1 (strs top)),.t (.list 6 (z8.zq cs))]],.vs 2 [zG],.vs 2 [[.sl 3 0 top.length none,.sl 4 0 m none]],.ts 1 (strs top),.ts 6 (z8.zq pre)])
  = some (.loop (.exit 0) [.ptr 0 0 0,.ptr 1 0 0] [.vs 2 [zG],.vs 2 [[.sl 2 0 top.length none,.sl 3 0 cs.length none]],.ts 1 (strs top),.ts 6 (z8.zq cs)])
 | [],pre,m,hs,hm=>by
  have c:decide ((pre.length:Int)<(cs.length:Int))=false:=by simp[hs]
  have e:cs=pre:=by simpa using hs
  simp only[zG];refine zh func70 rfl rfl ?_;simp (disch:=(try simp only[LL]);omega) only[↓GO,↓DRW,GA,GX,ren,zj,za,refs,z7,cst,zm,isC,bin,una,z6,zd,blt,asArg,zg,zc,zf,z1,zn,unN,ze,zk,zb,GS,simprocAttr,GZ,c,z8.zz,zA];rw[hm,← e]
 | x::rest,pre,m,hs,hm=>by
  have c:decide ((pre.length:Int)<(cs.length:Int))=true:=by simp[hs];omega
  have c0:decide ((0:Int)≤(pre.length:Int))=true:=by simp
  have hget:(z8.zq cs)[pre.length]? = some x.enc:=by rw[hs];simp[z8.zq]
  have hlen:pre.length+rest.length+1≤cs.length:=by rw[hs];simp;omega
  have hcx:=Zg x (hb x (by rw[hs];simp));have IH:=Ut top cs hl hkl hb rest (pre++[x]) (m+1) (by rw[hs];simp) (by simp[hm]);rw[lU,show ((pre++[x]).length:Int)=(pre.length:Int)+1 by simp]at IH;have hol:(z8.zq pre).length=m:=by rw[z8.zz,hm]
  have hml:m≤1048576:=by omega
  clear hs;obtain⟨name,version,source,sums,dev,zB⟩:=x;simp only[z8.enc,List.map_cons,List.map_nil,zG]at hcx hget IH ⊢;generalize z8.zq pre=A at *;refine zh func70 rfl rfl ?_;simp (disch:=(try simp only[LL]);omega) only[↓GO,↓DRW,GA,GX,ren,zj,za,refs,z7,cst,zm,isC,bin,una,z6,zd,blt,asArg,zg,zc,zf,z1,zn,unN,ze,zk,zb,GS,simprocAttr,GZ,c,c0,z8.zz,hget,hcx,zi,hol,IH,zA,y6];refine zT (by kernel_rfl) ?_;rfl
theorem aL (top:List Str)(hkl:top.length≤1048576) :
 EV prog pol (.callO false 70 [.agg [.t (.list 1 (strs top)),.t (.list 6 [])]] [])=some (.call (.agg [.sl 0 0 top.length none,.nil 6]) [.ts 1 (strs top)]):=by
 have L:EV prog pol (.loop 70 58 0 [.ptr 0 0 0,.ptr 1 0 0,.ptr 2 0 0,.t (.int .i64 0)] [.vs 2 [[.t (.list 1 (strs top)),.t (.list 6 [])]],.vs 2 [zG],.vs 2 [[.sl 3 0 top.length none,.nil 6]],.ts 1 (strs top)])
  = some (.loop (.exit 0) [.ptr 0 0 0,.ptr 1 0 0] [.vs 2 [zG],.vs 2 [[.sl 2 0 top.length none,.nil 6]],.ts 1 (strs top)]):=by
  simp only[zG];refine zh func70 rfl rfl ?_;simp (disch:=(try simp only[LL]);omega) only[↓GO,↓DRW,GA,GX,ren,zj,za,refs,z7,cst,zm,isC,bin,una,z6,zd,blt,asArg,zg,zc,zf,z1,zn,unN,ze,zk,zb,GS,simprocAttr,GZ,zA,List.length_nil,Int.natCast_zero]
 simp only[zG]at L;refine zM func70 rfl (by kernel_rfl) ?_;unfold Tryz.f70;simp (disch:=(try simp only[LL]);omega) only[↓GO,↓DRW,GA,GX,ren,zj,za,refs,z7,cst,zm,isC,bin,una,z6,zd,blt,asArg,zg,zc,zf,z1,zn,unN,ze,zk,zb,GS,simprocAttr,GZ,L,zo,zA,y6]
 try (refine zT (by kernel_rfl) ?_;rfl)
theorem di (top:List Str)(x:z8)(rest:List z8)(hkl:top.length≤1048576)(hl:(x::rest).length≤1048576)(hb:∀ c∈x::rest,c.y0≤1048576) :
 EV prog pol (.callO false 70 [.agg [.t (.list 1 (strs top)),.t (.list 6 (z8.zq (x::rest)))]] [])=some (.call (.agg [.sl 0 0 top.length none,.sl 1 0 (x::rest).length none]) [.ts 1 (strs top),.ts 6 (z8.zq (x::rest))]):=by
 have hcx:=Zg x (hb x (by simp));have L:=Ut top (x::rest) (by omega) (by omega) hb rest [x] 1 rfl rfl;have L0:EV prog pol (.loop 70 58 0 [.ptr 0 0 0,.ptr 1 0 0,.ptr 2 0 0,.t (.int .i64 0)] [.vs 2 [[.t (.list 1 (strs top)),.t (.list 6 (z8.zq (x::rest)))]],.vs 2 [zG],.vs 2 [[.sl 3 0 top.length none,.nil 6]],.ts 1 (strs top)])
  = some (.loop (.exit 0) [.ptr 0 0 0,.ptr 1 0 0] [.vs 2 [zG],.vs 2 [[.sl 2 0 top.length none,.sl 3 0 (x::rest).length none]],.ts 1 (strs top),.ts 6 (z8.zq (x::rest))]):=by
  have c:decide ((0:Int)<((x::rest).length:Int))=true:=by apply decide_eq_true;simp only[List.length_cons];omega
  have hget:(z8.zq (x::rest))[0]? = some x.enc:=rfl;rw[show z8.zq [x]=[x.enc] from rfl]at L;obtain⟨name,version,source,sums,dev,zB⟩:=x;simp only[z8.enc,List.map_cons,List.map_nil,zG,List.length_cons,List.length_nil,Nat.zero_add]at hcx hget L ⊢;generalize z8.mk name version source sums dev zB::rest=cs at *;refine zh func70 rfl rfl ?_;simp (disch:=(try simp only[LL]);omega) only[↓GO,↓DRW,GA,GX,ren,zj,za,refs,z7,cst,zm,isC,bin,una,z6,zd,blt,asArg,zg,zc,zf,z1,zn,unN,ze,zk,zb,GS,simprocAttr,GZ,c,z8.zz,tJ,hget,hcx,zi,Int.reduceAdd,L,zA,y6,List.length_nil,Int.natCast_zero]
  try (refine zT (by kernel_rfl) ?_;first|rfl|exact L)
 clear L;generalize x::rest=cs at *;simp only[zG]at L0;refine zM func70 rfl (by kernel_rfl) ?_;unfold Tryz.f70;simp (disch:=(try simp only[LL]);omega) only[↓GO,↓DRW,GA,GX,ren,zj,za,refs,z7,cst,zm,isC,bin,una,z6,zd,blt,asArg,zg,zc,zf,z1,zn,unN,ze,zk,zb,GS,simprocAttr,GZ,L0,zo,zA,y6]
 try (refine zT (by kernel_rfl) ?_;rfl)
end Go.Proofs.YtefkoljdebekdaaGreatDoor

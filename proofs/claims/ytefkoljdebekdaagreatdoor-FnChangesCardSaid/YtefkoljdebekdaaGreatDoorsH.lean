/- Joined: E15 E16 E17 E18 E19 T1 T2 XL X1. Conditions: those of each lemma. -/
import Derived.Test.YtefkoljdebekdaaGreatDoorsG
import Derived.ProofKit
import Derived.ReadAgain
import Derived.ChangeSame
import Derived.IntWalk
import Derived.Shelf.Strings.Builder1
import Derived.Shelf.Strings.Builder2
import Derived.Shelf.Strings.OnBuilder
import Derived.Shelf.Small.Utf8
import Derived.Shelf.Small.Bits
import Derived.Shelf.Small.Strs
import Derived.Shelf.Strings.BuilderF
import Derived.Shelf.Strings.BuilderK
import Derived.Shelf.Utf8.RuneCount
import Derived.Shelf.Strings.Builder2Cap
import Derived.Shelf.Strconv.Atoi
import Derived.Shelf.Strconv.Itoa0
import Derived.Shelf.Strconv.Itoa1
import Derived.Shelf.LaysM
import Derived.Shelf.Strconv.Itoa2
import Derived.Shelf.Strconv.Itoa3
import Derived.Shelf.Strconv.AtoiErrFast
import Derived.Shelf.Strconv.ParseIntEmpty
import Derived.Shelf.Strconv.AtoiFail
import Derived.Shelf.Strconv.Clone
import Derived.Shelf.Strconv.SyntaxError
import Derived.Shelf.LaysC
import Derived.Shelf.Strconv.ToError
import Derived.Shelf.Strconv.AtoiErr
import Derived.Shelf.Strconv.ErrVar
import Derived.Shelf.Strconv.Lower
import Derived.Shelf.Strconv.ParseUint10
import Derived.Shelf.Strconv.ParseUint10Empty
import Derived.Shelf.Strconv.ParseUint10Any
import Derived.Shelf.Strconv.ParseInt10
import Derived.Shelf.Strconv.AtoiLong
import Derived.Shelf.Strconv.AtoiInnerAll
import Derived.Shelf.Strconv.RangeError
import Derived.Shelf.Strconv.ToErrorRange
import Derived.Shelf.Strconv.AtoiAll
import Derived.Shelf.Strconv.ErrVarAll
import Derived.Shelf.Strconv.ParseUintEmpty
import Derived.Shelf.Strconv.ParseUint10b64
import Derived.Shelf.Strconv.ParseUint10b32
import Derived.Shelf.Strconv.ParseUint10b16
import Derived.Shelf.Strconv.ParseUint10b8
import Derived.Shelf.Strconv.ParseUint10At
import Derived.Shelf.Strconv.ParseInt10At64
import Derived.Shelf.Strconv.ParseInt10At32
import Derived.Shelf.Strconv.ParseInt10At16
import Derived.Shelf.Strconv.ParseInt10At8
import Derived.Shelf.Strconv.ParseInt10All
import Derived.Shelf.Strings.Search1
import Derived.Shelf.Strings.Search2
import Derived.Shelf.Strings.Search3
import Derived.Shelf.Strings.Cut
import Derived.Shelf.Strings.Count
import Derived.Shelf.Strings.Shaped
import Derived.Shelf.Sort.Plain
import Derived.Shelf.Strings.Prefix
import Derived.Shelf.Strings.Split
import Derived.Shelf.Strings.SplitShaped
import Derived.Shelf.Unicode.Decode
import Derived.Shelf.Strings.Runes
import Derived.Shelf.Strings.RuneCount
import Derived.Shelf.Strings.AsciiSet
import Derived.Shelf.Strings.Explode
import Derived.Shelf.Unicode.DecodeSlow
import Derived.Shelf.Unicode.DecodeAny
import Derived.Shelf.Strings.BuilderCap
import Derived.Shelf.Slices.Equal
import Derived.Ground.Names2Prog
import Derived.Shelf.Slices.Clone
import Derived.Shelf.Slices.CompactS
import Derived.Shelf.Slices.Cells
import Derived.Shelf.Slices.In.SortNone
import Derived.Shelf.Slices.Empties2
import Derived.Ground.SlgnProg
import Derived.Shelf.SlicesE.Clone
import Derived.Test.YtefkoljdebekdaaGreatDoorProg
set_option linter.unusedVariables false
set_option linter.unusedSimpArgs false
set_option maxRecDepth 100000
namespace Go.Proofs.YtefkoljdebekdaaGreatDoor.E
open Go.Proofs.Tryz
inductive WT (P:Program):TypeId→List T→Prop
 | int (t:TypeId) (k:IntKind) (n:Int) (h:P.underlying t=some (.int k)) (hw:(Lit.int k n).wf=true):WT P t [.int k n]
 | bool (t:TypeId) (b:Bool) (h:P.underlying t=some .bool):WT P t [.bool b]
 | str (t:TypeId) (l:List UInt8) (h:P.underlying t=some .string) (hl:l.length≤maxLen):WT P t [.str l]
 | list (t e:TypeId) (es:List (List T)) (h:P.underlying t=some (.slice e)) (hl:es.length≤maxLen) (hs:∀ c∈es,WT P e c):WT P t [.list (P.cellsOf e) es]
 | struct (t:TypeId) (fs:Array Go.Field) (cs:List T) (h:P.underlying t=some (.struct fs)) (hl:cs.length=P.cellsOf t)
  (hs:∀ f∈fs.toList,WT P f.type ((cs.drop f.offset).take (P.cellsOf f.type))):WT P t cs
inductive WTA (P:Program):List TypeId→List V→Prop
 | nil:WTA P [] []
 | cons (t:TypeId) (ts:List TypeId) (cs:List T) (v:V) (vs:List V) (h:WT P t cs) (hp:zd (yd P t) (cs.map .t)=some v) (hs:WTA P ts vs):WTA P (t::ts) (v::vs)
def fg (P:Program)(size:Nat):Nat→List Go.Field→Bool
 | o,[]=>o==size
 | o,f::fs=>f.offset==o&&fg P size (o+P.cellsOf f.type) fs
def lj (P:Program)(l:List TypeId):Bool:=l.all fun t=>match P.underlying t with
 | some (.int _)|some .bool|some .string=>P.cellsOf t==1
 | some (.slice e)=>l.contains e&&decide (0<P.cellsOf e)&&P.cellsOf t==1
 | some (.struct fs)=>(fs.toList.all fun f=>l.contains f.type)&&fg P (P.cellsOf t) 0 fs.toList
 | _=>false
theorem mapM_some {α β:Type}{f:α→Option β}:∀ {l:List α} {r:List β},l.mapM f=some r→r.length=l.length∧∀ (i:Nat) (x:α),l[i]? = some x→∃ y,r[i]? = some y∧f x=some y
 | [],r,h=>by simp at h;subst h;exact⟨rfl,fun i x hi=>by simp at hi⟩
 | a :: l, r, h => by
  rw[List.mapM_cons]at h
  cases ha:f a with
  | none=>simp[ha]at h
  | some b =>
   cases hl:l.mapM f with
   | none=>simp[ha,hl]at h
   | some r' =>
    simp[ha,hl]at h;subst h;obtain⟨h1,h2⟩:=mapM_some hl;refine⟨by simp[h1],fun i x hi=>?_⟩
    cases i with
    | zero=>simp at hi;subst hi;exact⟨b,rfl,ha⟩
    | succ i=>exact h2 i x (by simpa using hi)
theorem sw {w:World}{base:Nat}{a:Addr}{n:Nat}{cs:List Value}(h:w.cells? base a n=some cs):cs.length=n∧∀ j,j<n→∃ u,cs[j]? = some u∧w.cell? (a.add j)=some u:=by
 unfold World.cells? at h
 split at h
 · obtain⟨h1,h2⟩:=mapM_some h;refine⟨by simpa using h1,fun j hj=>?_⟩;obtain⟨u,e1,e2⟩:=h2 j j (by simp[hj]);exact⟨u,e1,e2⟩
 · cases h
variable {P:Program} {w:World} {H:Type} {enc:TypeId×Value→H}
theorem TM {l:List TypeId}(ho:lj P l=true){t:TypeId}(ht:t∈l):(match P.underlying t with
 | some (.int _)|some .bool|some .string=>P.cellsOf t==1
 | some (.slice e)=>l.contains e&&decide (0<P.cellsOf e)&&P.cellsOf t==1
 | some (.struct fs)=>(fs.toList.all fun f=>l.contains f.type)&&fg P (P.cellsOf t) 0 fs.toList
 | _=>false)=true:=List.all_eq_true.1 ho t ht
theorem gi {size:Nat}{cs:List Value}(hcs:cs.length=size):∀ (fs:List Go.Field) (o:Nat),fg P size o fs=true →
 (∀ f∈fs,∃ ts,RTs w (fun b=>b<w.heap.size) ((cs.drop f.offset).take (P.cellsOf f.type)) ts∧WT P f.type ts) →
 o≤size∧∃ ts,RTs w (fun b=>b<w.heap.size) (cs.drop o) ts∧∀ f∈fs,o≤f.offset∧WT P f.type ((ts.drop (f.offset - o)).take (P.cellsOf f.type))
 | [],o,hr,_=>by
  simp only[fg,beq_iff_eq]at hr;subst hr;exact⟨Nat.le_refl _,[],by rw[List.drop_of_length_le (by omega)];exact .nil,fun f hf=>by cases hf⟩
 | f::fs,o,hr,he=>by
  simp only[fg,Bool.and_eq_true,beq_iff_eq]at hr;obtain⟨rfl,hr⟩:=hr;obtain⟨k1,ts',k2,k3⟩:=gi hcs fs _ hr (fun g hg=>he g (by simp[hg]));obtain⟨tf,t1,t2⟩:=he f (by simp);have hlen:tf.length=P.cellsOf f.type:=by rw[← zP t1];simp;omega
  refine⟨by omega,tf++ts',?_,fun g hg=>?_⟩
  · have:=yY t1 k2
    rwa [← List.drop_drop,List.take_append_drop]at this
  · rcases List.mem_cons.1 hg with rfl|hg
    · refine⟨Nat.le_refl _,?_⟩;rw[Nat.sub_self,List.drop_zero,List.take_append_of_le_length (by omega),List.take_of_length_le (by omega)];exact t2
    · obtain⟨g1,g2⟩:=k3 g hg;refine⟨by omega,?_⟩;have e1:(tf++ts').drop (g.offset - f.offset)=ts'.drop (g.offset - (f.offset+P.cellsOf f.type)):=by
       rw[List.drop_append,List.drop_of_length_le (by omega),List.nil_append]
       congr 1;omega
      rw[e1];exact g2
theorem Tq {l : List TypeId} (ho : lj P l = true) {spare : Nat → Bool} {held : Bool} {base : Nat} : ∀ (n : Nat) (t : TypeId), t ∈ l → ∀ (cs : List Value) (x : DataW H × List MemPlace), DataW.trod enc P w base spare held n t cs = some x →
 ∃ ts:List T,RTs w (fun b=>b<w.heap.size) cs ts∧WT P t ts:=by
 intro n
 induction n with
 | zero=>intro t _ cs x h;simp[DataW.trod]at h
 | succ n ih =>
  intro t ht cs x h;have hok:=TM ho ht;unfold DataW.trod at h
  split at h
  · rename_i b hu;exact⟨[.bool b],.cons (.bool b) .nil,.bool t b hu⟩
  · rename_i k k' m hu
    split at h
    · rename_i hk;obtain⟨rfl,hw⟩:=hk;exact⟨[.int k' m],.cons (.int k' m) .nil,.int t k' m hu hw⟩
    · cases h
  · rename_i hu;rw[hu]at hok;cases hok
  · rename_i s hu
    split at h
    · rename_i hs;exact⟨[.str s.data.toList],.cons (.str s _ rfl) .nil,.str t _ hu (by simpa using hs)⟩
    · cases h
  · rename_i hu;rw[hu]at hok;cases hok
  · rename_i hu;rw[hu]at hok;cases hok
  · rename_i e hu;refine⟨[.list (P.cellsOf e) []],.cons (vi _ none _) .nil,.list t e [] hu (Nat.zero_le _) (fun c hc=>by cases hc)⟩
  · rename_i e ad len cap hu;rw[hu]at hok;simp only[Bool.and_eq_true,List.contains_iff_mem,decide_eq_true_eq]at hok;obtain⟨⟨he,hpos⟩,hone⟩:=hok
    split at h
    · rename_i hc
      cases hm:(List.range len).mapM fun i=>(w.cells? base (ad.add (i*P.cellsOf e)) (P.cellsOf e)).bind (DataW.trod enc P w base spare held n e) with
      | none=>simp[hm]at h
      | some elems =>
       obtain⟨m1,m2⟩:=mapM_some hm;have each:∀ i,i<len→∃ (csi:List Value) (tsi:List T),w.cells? base (ad.add (i*P.cellsOf e)) (P.cellsOf e)=some csi∧RTs w (fun b=>b<w.heap.size) csi tsi∧WT P e tsi:=fun i hi=>by
        obtain⟨y,_,hy⟩:=m2 i i (by simp[hi])
        cases hcs:w.cells? base (ad.add (i*P.cellsOf e)) (P.cellsOf e) with
        | none=>simp[hcs]at hy
        | some csi =>
         simp[hcs]at hy;obtain⟨tsi,t1,t2⟩:=ih e he csi y hy;exact⟨csi,tsi,rfl,t1,t2⟩
       have hex:∃ f:Nat→List T,∀ i,i<len→∃ csi:List Value,w.cells? base (ad.add (i*P.cellsOf e)) (P.cellsOf e)=some csi∧RTs w (fun b=>b<w.heap.size) csi (f i)∧WT P e (f i) :=
        ⟨fun i=>if hi:i<len then (each i hi).choose_spec.choose else [],fun i hi=>by
         simp only[hi,dif_pos];exact⟨(each i hi).choose,(each i hi).choose_spec.choose_spec⟩⟩
       obtain⟨f,hf⟩:=hex;refine⟨[.list (P.cellsOf e) ((List.range len).map f)],.cons ?_ .nil,.list t e _ hu (by simp;omega) (fun c hc=>?_)⟩
       · refine .list (some ad) len cap (P.cellsOf e) _ (fun i j=>(w.cell? ((ad.add (i*P.cellsOf e)).add j)).getD undef) (by simp) hc.2.1 (fun hp=>?_) (fun c hc=>?_) (fun i j cs x hi hj=>?_)
         · obtain⟨csi,e1,e2,e3⟩:=hf 0 hp;obtain⟨c1,c2⟩:=sw e1;obtain⟨u,u1,u2⟩:=c2 0 hpos;have hadd0:(ad.add (0*P.cellsOf e)).add 0=ad:=by simp[Addr.add]
           rw[hadd0]at u2;obtain⟨b,o,spot⟩:=ad;have hspot:spot=none:=by
            cases spot with
            | none=>rfl
            | some s=>unfold World.cell? at u2;split at u2<;>simp at u2
           subst hspot;refine⟨b,o,rfl,?_,fun i j hi hj=>?_⟩
           · unfold World.cell? at u2
             split at u2
             · rename_i hh;exact (Array.getElem?_eq_some_iff.1 hh).1
             · cases u2
           · obtain⟨csi,e1,e2,e3⟩:=hf i hi;obtain⟨c1,c2⟩:=sw e1;obtain⟨u,u1,u2⟩:=c2 j hj;simp only[Addr.add_mid]at u2 ⊢;rw[u2,show o+(i*P.cellsOf e+j)=o+i*P.cellsOf e+j by omega,u2];rfl
         · simp only[List.mem_map,List.mem_range]at hc;obtain⟨i,hi,rfl⟩:=hc;obtain⟨csi,e1,e2,e3⟩:=hf i hi;rw[← zP e2];exact (sw e1).1
         · have hil:i<len:=by have:=(List.getElem?_eq_some_iff.1 hi).1;simpa using this
           simp[hil]at hi;subst hi;obtain⟨csi,e1,e2,e3⟩:=hf i hil;obtain⟨c1,c2⟩:=sw e1;obtain⟨u,u1,u2⟩:=yh e2 j x hj;have hjl:j<P.cellsOf e:=by rw[← c1];exact (List.getElem?_eq_some_iff.1 u1).1
           obtain⟨u',u3,u4⟩:=c2 j hjl;rw[u1]at u3;cases u3;rw[u4];exact u2
       · simp only[List.mem_map,List.mem_range]at hc;obtain⟨i,hi,rfl⟩:=hc;exact (hf i hi).choose_spec.2.2
    · cases h
  · rename_i cs _ _ fs hu;rw[hu]at hok;simp only[List.all_eq_true,Bool.and_eq_true,List.contains_iff_mem]at hok;obtain⟨hmem,hrow⟩:=hok
    split at h
    · rename_i hl
      cases hm:fs.toList.mapM fun f=>DataW.trod enc P w base spare held n f.type ((cs.drop f.offset).take (P.cellsOf f.type)) with
      | none=>simp[hm]at h
      | some xs =>
       obtain⟨_,m2⟩:=mapM_some hm;obtain⟨_,ts,t1,t2⟩:=gi hl fs.toList 0 hrow fun f hf=>by
        obtain⟨i,hi⟩:=List.mem_iff_getElem?.1 hf;obtain⟨y,_,hy⟩:=m2 i f hi;exact ih f.type (hmem f hf) _ y hy
       simp only[List.drop_zero]at t1;refine⟨ts,t1,.struct t fs ts hu (by rw[← zP t1];exact hl) fun f hf=>?_⟩;have:=(t2 f hf).2;simpa using this
    · cases h
  all_goals first
   | (rename_i hu;rw[hu]at hok;cases hok;done)
   | (cases h;done)
theorem WL {t:TypeId}{ts:List T}(hw:WT P t ts):∃ v,zd (yd P t) (ts.map .t)=some v:=by
 cases hw with
 | int t k n h=>simp[zd,yd,h]
 | bool t b h=>simp[zd,yd,h]
 | str t l h=>simp[zd,yd,h]
 | list t e es h=>simp[zd,yd,h]
 | struct t fs cs h=>simp[zd,yd,h]
theorem one_cell {r:Reach}{b:Nat}{t:TypeId}{v:Value}(ha:yd P t=false)(hok:Value.okWide P w r b t v):v.cells = #[v]:=by
 cases v with
 | agg cs =>
  exfalso;unfold Value.okWide at hok
  split at hok
  · rename_i h;simp[yd,h]at ha
  · rename_i h;simp[yd,h]at ha
  · unfold Cell.okWide at hok
    split at hok
    all_goals first
     | (rename_i h1 h2;cases h2;done)
     | skip
    all_goals (unfold Cell.ok at hok;split at hok<;>first|(rename_i h1 h2;cases h2;done)|exact hok)
 | _=>rfl
theorem YX {l:List TypeId}(ho:lj P l=true){base:Nat}{r:Reach}{b:Nat}:∀ (ts:List TypeId),(∀ t∈ts,t∈l)→∀ (vs:List Value) (ds:List (DataW H)) (ps:List MemPlace),DataW.TrodAll enc P w base (fun _=>true) true ts vs ds ps →
 (∀ (j:Nat) t v,ts[j]? = some t→vs[j]? = some v→Value.okWide P w r b t v) →
 ∃ xs,RVs w (fun b=>b<w.heap.size) zO vs xs∧WTA P ts xs
 | [],_,vs,ds,ps,h,_=>by
  cases vs with
  | nil=>exact⟨[],.nil,.nil⟩
  | cons=>simp[DataW.TrodAll]at h
 | t :: ts, hl, vs, ds, ps, h, hagg => by
  cases vs with
  | nil=>simp[DataW.TrodAll]at h
  | cons v vs =>
  cases ds with
  | nil=>simp[DataW.TrodAll]at h
  | cons d ds =>
   obtain⟨p,q,⟨n,hn⟩,h2,_⟩:=h;obtain⟨cs,c1,c2⟩:=Tq ho n t (hl t (by simp)) _ _ hn;obtain⟨x,hx⟩:=WL c2;obtain⟨xs,x1,x2⟩:=YX ho ts (fun t ht=>hl t (by simp[ht])) vs ds q h2 (fun j t' v' h1 h2=>hagg (j+1) t' v' (by simpa using h1) (by simpa using h2));refine⟨x::xs,.cons ?_ x1,.cons t ts cs x xs c2 hx x2⟩;obtain⟨k1,k2⟩:=kW hx (fC (ρ:=zO) c1);have hv:=hagg 0 t v rfl rfl
   cases ha:yd P t with
   | true =>
    have:=k1 ha;have hag:∃ cs,v=.agg cs:=by
     unfold Value.okWide at hv
     split at hv
     · obtain⟨cs,e,_⟩:=hv;exact⟨cs,e⟩
     · obtain⟨cs,e,_⟩:=hv;exact⟨cs,e⟩
     · rename_i h1 h2;unfold yd at ha
       split at ha
       · rename_i h;exact absurd h (h1 _)
       · rename_i h;exact absurd h (h2 _ _)
       · cases ha
    obtain⟨cs',rfl⟩:=hag;simpa [Value.cells] using this
   | false =>
    obtain⟨u,hu,hr⟩:=k2 ha;have h1:=one_cell ha hv;rw[h1]at hu;have:v=u:=by simpa using hu
    rw[this];exact hr
theorem TB {w':World}{F F':Nat→Prop}(hn:Nxt (own fun b=>w.heap.size≤b) w F zO w' F' zO)(p:MemPlace)(hp:p.block<w.heap.size):w.sameAt w' p:=by
 cases p with
 | cell b off =>
  have hb:b<w.heap.size:=hp;have h:=hn.keep b hb (Nat.not_le.2 hb);unfold World.sameAt World.cell?;simp only[h]
 | map b =>
  have hb:b<w.heap.size:=hp;exact hn.keep b hb (Nat.not_le.2 hb)
theorem qz {w':World}{base:Nat}{spare:Nat→Bool}{held:Bool}:∀ {ts:List TypeId} {vs:List Value} {ds:List (DataW H)} {ps:List MemPlace},DataW.TrodAll enc P w base spare held ts vs ds ps→(∀ p∈ps,w.sameAt w' p)→DataW.TrodAll enc P w' base spare held ts vs ds ps
 | [],[],[],_,h,_=>h
 | _::_,_::_,_::_,_,⟨p,q,⟨n,h1⟩,h2,e⟩,hs =>
  ⟨p,q,⟨n,DataW.trod_carry n _ _ _ h1 fun x hx=>hs x (by rw[e];exact List.mem_append_left _ hx)⟩,qz h2 fun x hx=>hs x (by rw[e];exact List.mem_append_right _ hx),e⟩
theorem Q8 {pol:Pol} {W:World} (hE:l0 P W pol) (hP:∀ f fn c,pol.no f=false→P.funcs[f]? = some fn→fn.body=some c→xn (oQ P pol f) fn.ntmps c=true)
 {f:Func} {g:Nat} {s:ChangeSpec} {base:Nat} {args:Array Value} {ds gs:List (DataW H)} {before:List MemPlace} {l:List TypeId} {tb:TypeId} {T:TypeId→Prop}
 (ho:lj P l=true) (hl:∀ t∈f.params.toList,t∈l) (hvars:s.vars=[])
 (hK:Kids P T) (hz:∀ t e,T t→P.underlying t=some (.slice e)→0<P.cellsOf e) (hT:∀ t∈f.params.toList,T t)
 (hval:∀ (j:Nat) t v,f.params[j]? = some t→args[j]? = some v→Value.okWide P W .any base t v)
 (hW:DataW.Whole enc P f.params.toList s.vars false W args.toList ds gs before)
 (hfn:gs=[]→(s.fn H (ds++gs)).results=[.lit (.bool true)]∧(s.fn H (ds++gs)).args=ds∧(s.fn H (ds++gs)).vars=[])
 (hr:f.resultTypes = #[tb]) (hb:P.underlying tb=some .bool)
 (hev:∀ xs,WTA P f.params.toList xs→EV P pol (.call g xs [])=some (.call (.t (.bool true)) [])) :
 Calls P g args W fun e W'=>∃ v,e=.returned v∧s.post enc P f false true false false W args v W':=by
 have hW0:=hW;obtain⟨p,q,hA,hV,rfl,hfz,hnd⟩:=hW;rw[hvars]at hV;obtain⟨rfl,rfl⟩:=Go.ChangeShapes.trodVars_none hV;obtain⟨hf1,hf2,hf3⟩:=hfn rfl;obtain⟨xs,x1,x2⟩:=YX ho f.params.toList hl args.toList ds p hA (fun j t v h1 h2=>hval j t v (by simpa using h1) (by simpa using h2));refine (X3 hE hP (hev xs x2) W (fun b=>b<W.heap.size) args ⟨Nat.le_refl _,fun b hb=>hb,fun b hb=>rfl⟩ (fun b h=>h) x1).mono fun e W' ⟨u,F',he,hru,hF',hn⟩=>?_
 have hu:u=.bool true:=by cases hru with|t u x h=>cases h;rfl
 subst hu;refine⟨_,he,ds,[],p++[],[],p,[],hW0,?_,?_,?_,?_,by simp⟩
 · rw[hf1,hr];exact Go.ChangeShapes.trodAll_mk1 (Go.RowKit.shut_bool hb true)
 · rw[hf2];have h1:=DataW.TrodAll.respare (spare':=fun b=>decide (b<W.heap.size)) hK hz hT hA (fun x hx=>by simpa using hA.lt x hx);exact qz h1 fun x hx=>TB hn x (hA.lt x hx)
 · rw[hf3,hvars];rfl
 · refine⟨hn.os,hn.output,fun i hi=>?_⟩;rw[hn.keep i hi (Nat.not_le.2 hi)];have:W.heap[i]? = some W.heap[i]:=Array.getElem?_eq_getElem hi;rw[this];generalize W.heap[i]=c
   cases c<;>simp
end Go.Proofs.YtefkoljdebekdaaGreatDoor.E
/- The evaluator as a machine with a stack, for proofs that step through code. Conditions: those of each lemma. -/
namespace Go.Proofs.YtefkoljdebekdaaGreatDoor.E
open Go.Proofs.Tryz
structure Cx where
 P:Program
 pol:Pol
 rc:Rec
 f:Nat
 m:Nat
inductive Fr where
 | seq (c:Code) (p:Nat)
 | blk (id:Nat)
inductive rI where
 | call (res:List ResultVar)
 | callO (gv:Bool) (res:List ResultVar)
 | loop (p:Nat)
def bX (P:Program)(m:Nat)(r:Option (List V))(h:Heap):Option w7 :=
 match r with
 | some vs=>match yP h (zk vs) with
  | some (v,h'')=>some (.call v (h''.take m))
  | none=>none
 | none=>none
def kt (C:Cx):rI→Exi→Env→Heap→Option w7
 | .call res,x,e,h=>match x with
  | .normal|.ret=>bX C.P C.m (vW C.P e h res) h
  | .exit _=>none
 | .callO gv res,x,e,h=>match x with
  | .normal|.ret=>lQ gv C.m (vW C.P e h res) h
  | .exit _=>none
 | .loop p,x,e,h=>match x with
  | .normal=>C.rc (.loop C.f p C.m (yj C.m ((C.pol.live C.f p).map e) h).1 (yj C.m ((C.pol.live C.f p).map e) h).2)
  | x=>some (.loop x (yj C.m ((C.pol.outs C.f p).map e) h).1 (yj C.m ((C.pol.outs C.f p).map e) h).2)
def goX (C:Cx):List Fr→rI→Exi→Env→Heap→Option w7
 | [],k,x,e,h=>kt C k x e h
 | .seq c p::fs,k,x,e,h=>match x with
  | .normal=>(match evC C.P C.pol C.rc C.f C.m c p e h with|some (x',e',h')=>goX C fs k x' e' h'|none=>none)
  | x=>goX C fs k x e h
 | .blk id::fs,k,x,e,h=>match x with
  | .exit id'=>if id'=id then goX C fs k .normal e h else goX C fs k (.exit id') e h
  | x=>goX C fs k x e h
def goC (C:Cx)(c:Code)(p:Nat)(fs:List Fr)(k:rI)(e:Env)(h:Heap):Option w7 :=
 match evC C.P C.pol C.rc C.f C.m c p e h with|some (x',e',h')=>goX C fs k x' e' h'|none=>none
structure Rg where
 ops:Array Oper
 N:Option Nat
 Ns:List (Option Nat)
 acc:List (List Nat)
 d:Bool
 x:Bool
def goR (C:Cx)(q:Rg)(rest:List Oper)(fs:List Fr)(k:rI)(e:Env)(h:Heap):Option w7 :=
 if q.d then if q.x then (match evR C.P C.pol C.rc C.f q.ops q.Ns rest e h with
  | some (rs,e',h')=>if zOK C.pol C.f (!q.Ns.isEmpty) q.ops (q.acc.reverse++rs) then goX C fs k .normal e' h' else none
  | none=>none) else (match evD C.P C.pol C.rc C.f q.ops q.Ns rest e h with
  | some (fps,e',h')=>if bV C.pol C.f q.ops (q.acc.reverse++fps) then goX C fs k .normal e' h' else none
  | none=>none)
 else if q.x then (match si C.P C.pol C.rc C.f q.ops rest e h with|some (e',h')=>goX C fs k .normal e' h'|none=>none)
 else match wK C.P C.pol C.rc C.f q.ops rest e h with|some (e',h')=>goX C fs k .normal e' h'|none=>none
def mY (C:Cx)(q:Rg)(o:Oper)(e:Env)(h:Heap):Option (V×Heap) :=
 if q.x&&C.pol.own C.f then (match yS C.P C.pol C.rc C.f q.N o e h with|some r=>some r|none=>bare (bN q.N o) (zU C.P C.pol C.rc C.f q.N o e h)) else zU C.P C.pol C.rc C.f q.N o e h
def gO (a b:Bool)(N:Option Nat)(x y:Option (V×Heap)):Option (V×Heap):=if a&&b then (match x with|some r=>some r|none=>bare N y) else y
def qM (C:Cx)(q:Rg)(o:Oper)(rest:List Oper)(fs:List Fr)(k:rI)(e:Env)(h:Heap):Option w7 :=
 match zU C.P C.pol C.rc C.f q.N o e h with|some (v,h')=>goR C q rest fs k (put e o.dst v) h'|none=>none
def goW (C:Cx)(w:Option Bool)(q:Rg)(o:Oper)(rest:List Oper)(fs:List Fr)(k:rI)(e:Env)(h:Heap):Option w7 :=
 match w with
 | some true=>(match mY C q o e h with|some (v,h')=>goR C q rest fs k (put e o.dst v) h'|none=>none)
 | some false=>goR C q rest fs k (put e o.dst .und) h
 | none=>none
def r1 (C:Cx)(r:Option V)(dst:Option Nat)(q:Rg)(rest:List Oper)(fs:List Fr)(k:rI)(e:Env)(h:Heap):Option w7 :=
 match r with|some v=>goR C q rest fs k (put e dst v) h|none=>none
def r2 (C:Cx)(r:Option (V×Heap))(dst:Option Nat)(q:Rg)(rest:List Oper)(fs:List Fr)(k:rI)(e:Env):Option w7 :=
 match r with|some (v,h)=>goR C q rest fs k (put e dst v) h|none=>none
def rh (C:Cx)(r:Option Heap)(dst:Option Nat)(q:Rg)(rest:List Oper)(fs:List Fr)(k:rI)(e:Env):Option w7 :=
 match r with|some h=>goR C q rest fs k (put e dst .und) h|none=>none
def cK (C:Cx)(v:V)(a b:Code)(p:Nat)(fs:List Fr)(k:rI)(e:Env)(h:Heap):Option w7 :=
 match v with
 | .t (.bool t)=>if t then goC C a (2*p) fs k e h else goC C b (2*p+1) fs k e h
 | _=>none
def lK (C:Cx)(r:Option w7)(outs:List Nat)(fs:List Fr)(k:rI):Option w7 :=
 match r with
 | some (.loop x vals h')=>goX C fs k x (zb outs vals) h'
 | _=>none
def Xa (N:Option Nat)(ids:List Nat)(r:Option w7)(h:Heap):Option (V×Heap) :=
 match r with
 | some (.call v h1)=>x7 N ids v h1 h
 | _=>none
def sj (C:Cx)(N:Option Nat)(m:PM)(fv:Option (Nat×List V))(args:List V)(h:Heap):Option (V×Heap) :=
 match fv with
 | some (g,caps)=>match m with
  | .pure=>(match asArg.asArgs (args++caps) with|some az=>(match zr C.rc g az with|some v=>some (v,h)|none=>none)|none=>(match yI.snapVs h (args++caps) with|some az=>(match zr C.rc g az with|some v=>(if zc v then some (v,h) else none)|none=>none)|none=>none))
  | .frz=>(match yP.gives h (args++caps) with|some (az,h')=>(match zr C.rc g az with|some v=>some (v,h')|none=>none)|none=>none)
  | .opn gv=>Xa N (xy h (args++caps)) (C.rc (.callO gv g (yj 0 (args++caps) h).1 (yj 0 (args++caps) h).2)) h
  | .brw=>none
  | .all=>none
 | none=>none
def X9 (c a b:V):Option V :=
 match c with
 | .t (.bool t)=>some (if t then a else b)
 | _=>none
def R8 (P:Program)(t:TypeId)(x i:V):Option V :=
 match x,i with
 | .t (.str l),.t (.int _ n)=>if isStr P t then (match uJ l n with|some b=>some (.t (.int .u8 (b.toNat:Int)))|none=>none) else none
 | _,_=>none
def Rb (x:V)(i:Nat):Option V :=
 match x with
 | .tup vs=>vs[i]?
 | _=>none
def me (N:Option Nat)(z:Option (List V))(h:Heap):Option (V×Heap) :=
 match z with
 | some zs=>if zs.isEmpty then none else some (.ptr (nI N h) 0 0,nH N h (.vs zs.length [zs]))
 | none=>none
def QZ (N:Option Nat)(cs:List V)(h:Heap):Option (V×Heap) :=
 if cs.isEmpty||!cs.all y5 then none else some (.ptr (nI N h) 0 0,nH N h (.vs cs.length [cs]))
def YY (args:List V):Env:=fun t=>(args[t]?).getD .bad
theorem pM:∀ (args:List V) (s t:Nat),zb (List.range' s args.length) args t=if s≤t then (args[t - s]?).getD .bad else .bad
 | [],s,t=>by simp[zb]
 | v::vs,s,t=>by
  simp only[List.length_cons,List.range'_succ,zb,upd,pM vs (s+1) t]
  by_cases h:t=s
  · subst h;simp
  · simp only[h,if_false]
    by_cases h2:s+1≤t
    · have e:t - s=(t - (s+1))+1:=by omega
      simp only[h2,if_true,show s≤t by omega,e,List.getElem?_cons_succ]
    · simp only[h2,if_false,show ¬ s≤t by omega]
theorem mz (args:List V):zb (List.range args.length) args=YY args:=by
 funext t
 rw[List.range_eq_range',pM args 0 t];simp[YY]
theorem gH (v:V)(vs:List V):YY (v::vs) 0=v:=rfl
theorem gI (v:V)(vs:List V)(n:Nat):YY (v::vs) (n+1)=YY vs n:=rfl
theorem zx {P:Program} {pol:Pol} {f:Nat} {fn:Func} {c:Code} {args:List V} {h:Heap} {r:w7} (hx:pol.ext f args=none) (hf:P.funcs[f]? = some fn) (hb:fn.body=some c)
 (hn : (pol.no f || fn.name == "runtime.NumGoroutine" || decide (fn.ntmps < args.length)) = false)
 (hg:goC ⟨P,pol,EV P pol,f,h.length⟩ c 1 [] (.call fn.results.toList) (YY args) h=some r):EV P pol (.call f args h)=some r:=by
 rw[← mz]at hg;apply oU;simp only[E.step,hx,hf,hb,hn];unfold goC at hg;simp only at hg
 cases hc:evC P pol (EV P pol) f h.length c 1 (zb (List.range args.length) args) h with
 | none=>simp[hc]at hg
 | some x =>
  obtain⟨x,e',h'⟩:=x;simp only[hc,goX,kt]at hg;simp only[Bool.false_eq_true,if_false]
  cases x with
  | exit id=>cases hg
  | _ =>
   simp only[bX]at hg
   cases hres:vW P e' h' fn.results.toList with
   | none=>simp[hres]at hg
   | some vs =>
    simp only[hres]at hg ⊢
    cases hgv:yP h' (zk vs) with
    | none=>simp[hgv]at hg
    | some y=>simpa only[hgv] using hg
theorem zM {P:Program} {pol:Pol} {gv:Bool} {f:Nat} {fn:Func} {c:Code} {args:List V} {h:Heap} {r:w7} (hf:P.funcs[f]? = some fn) (hb:fn.body=some c)
 (hn : (pol.no f || fn.name == "runtime.NumGoroutine" || decide (fn.ntmps < args.length)) = false)
 (hg:goC ⟨P,pol,EV P pol,f,h.length⟩ c 1 [] (.callO gv fn.results.toList) (YY args) h=some r) (hx:pol.extO f args h=none:=by rfl):EV P pol (.callO gv f args h)=some r:=by
 rw[← mz]at hg;apply oU;simp only[E.step,hx,hf,hb,hn];unfold goC at hg;simp only at hg
 cases hc:evC P pol (EV P pol) f h.length c 1 (zb (List.range args.length) args) h with
 | none=>simp[hc]at hg
 | some x =>
  obtain⟨x,e',h'⟩:=x;simp only[hc,goX,kt]at hg;simp only[Bool.false_eq_true,if_false]
  cases x with
  | exit id=>cases hg
  | _=>exact hg
theorem zh {P:Program} {pol:Pol} {f p m:Nat} {fn:Func} {c b:Code} {vals:List V} {h:Heap} {r:w7} (hf:P.funcs[f]? = some fn) (hb:fn.body=some c) (hc:yZ c (turns p)=some (.loop b))
 (hg:goC ⟨P,pol,EV P pol,f,m⟩ b (2*p) [] (.loop p) (zb (pol.live f p) vals) h=some r):EV P pol (.loop f p m vals h)=some r:=by
 apply oU;simp only[E.step,hf,hb,hc];unfold goC at hg;simp only at hg
 cases hc:evC P pol (EV P pol) f m b (2*p) (zb (pol.live f p) vals) h with
 | none=>simp[hc]at hg
 | some x =>
  obtain⟨x,e',h'⟩:=x;simp only[hc,goX,kt]at hg
  cases x with
  | normal=>exact hg
  | ret=>exact hg
  | exit id=>exact hg
section
variable (C:Cx) (p:Nat) (fs:List Fr) (k:rI) (e:Env) (h:Heap) (q:Rg) (rest:List Oper) (dst:Option Nat) (ty:TypeId) (pos:String) (after:Array Edge)
theorem Yz (a b:Code):goC C (.seq a b) p fs k e h=goC C a (2*p) (.seq b (2*p+1)::fs) k e h:=by
 unfold goC;simp only[evC,goX]
 cases evC C.P C.pol C.rc C.f C.m a (2*p) e h with
 | none=>rfl
 | some x=>obtain⟨x,e',h'⟩:=x;cases x<;>rfl
theorem cY (c:Operand)(a b:Code):goC C (.cond c a b) p fs k e h=cK C (opv C.P e 0 c) a b p fs k e h:=by
 unfold goC cK;simp only[evC]
 cases opv C.P e 0 c with
 | t x=>cases x with
  | bool t=>cases t<;>rfl
  | _=>rfl
 | _=>rfl
theorem iW (id:Nat)(a:Code):goC C (.block id a) p fs k e h=goC C a (2*p) (.blk id::fs) k e h:=by
 unfold goC;simp only[evC,goX]
 cases evC C.P C.pol C.rc C.f C.m a (2*p) e h with
 | none=>rfl
 | some x =>
  obtain⟨x,e',h'⟩:=x
  cases x with
  | exit id'=>simp only;by_cases hi:id'=id<;>simp[hi]
  | _=>rfl
theorem cW (a:Code):goC C (.loop a) p fs k e h=lK C (C.rc (.loop C.f p C.m (yj C.m ((C.pol.live C.f p).map e) h).1 (yj C.m ((C.pol.live C.f p).map e) h).2)) (C.pol.outs C.f p) fs k:=by
 unfold goC lK;simp only[evC]
 cases C.rc (.loop C.f p C.m (yj C.m ((C.pol.live C.f p).map e) h).1 (yj C.m ((C.pol.live C.f p).map e) h).2) with
 | none=>rfl
 | some x=>cases x<;>rfl
theorem cX (id:Nat):goC C (.exit id) p fs k e h=goX C fs k (.exit id) e h:=rfl
theorem YA:goC C .ret p fs k e h=goX C fs k .ret e h:=rfl
theorem cV:goC C .skip p fs k e h=goX C fs k .normal e h:=rfl
theorem kn (n:Nat)(l:List Oper):goC C (.region n l.toArray false) p fs k e h=goR C ⟨l.toArray,none,[],[],false,true⟩ l fs k e (ghH (C.pol.gh C.f n) e h):=by
 unfold goC goR;simp only[evC,List.toList_toArray,Bool.false_and,Bool.false_eq_true,if_false,if_true]
 cases si C.P C.pol C.rc C.f l.toArray l e (ghH (C.pol.gh C.f n) e h)<;>rfl
def goD (C:Cx)(simple z kp:Bool)(l:List Oper)(fs:List Fr)(k:rI)(e:Env)(h:Heap):Option w7 :=
 if simple then goR C ⟨l.toArray,none,[],[],false,false⟩ l fs k e h else if z then (if kp then goR C ⟨l.toArray,none,kids h.length l,[],true,true⟩ l fs k e (h++List.replicate (oR l) .dead) else goR C ⟨l.toArray,none,[],[],true,true⟩ l fs k e h) else goR C ⟨l.toArray,none,vC C.pol C.f h.length l,[],true,false⟩ l fs k e (h++List.replicate (wF C.pol C.f l) .dead)
theorem jf (n:Nat)(l:List Oper)(hd:C.pol.dr C.f=true):goC C (.region n l.toArray true) p fs k e h=goD C (l.all (ym C.pol C.f)) (C.pol.own C.f&&C.pol.dm C.f n) (C.pol.dm C.f (n+1000)) l fs k e (ghH (C.pol.gh C.f n) e h):=by
 unfold goC goD;simp only[evC,hd,List.toList_toArray];generalize ghH (C.pol.gh C.f n) e h=h
 cases hn:l.all (ym C.pol C.f) with
 | true =>
  simp only[Bool.not_true,Bool.and_false,Bool.false_eq_true,if_false,if_true];unfold goR;simp only[Bool.false_eq_true,if_false]
  cases wK C.P C.pol C.rc C.f l.toArray l e h<;>rfl
 | false =>
  simp only[Bool.not_true,Bool.not_false,Bool.and_true,Bool.and_false,Bool.false_eq_true,if_false,if_true]
  by_cases hc:(C.pol.own C.f&&C.pol.dm C.f n)=true
  · simp only[hc,if_true]
    cases hkp:C.pol.dm C.f (n+1000) with
    | false =>
     unfold evZ goR;simp only[List.toList_toArray,if_true,List.reverse_nil,List.nil_append,Bool.false_eq_true,if_false,List.isEmpty_nil,Bool.not_true]
     cases evR C.P C.pol C.rc C.f l.toArray [] l e h with
     | none=>rfl
     | some x =>
      obtain⟨y1,y2,y3⟩:=x
      by_cases hx:zOK C.pol C.f false l.toArray y1=true
      · simp only[hx,if_true]
      · simp only[hx,Bool.false_eq_true,if_false]
    | true =>
     have hne:(kids h.length l).isEmpty=false:=by cases l with|nil=>rfl|cons o l=>simp only[kids];split<;>rfl
     unfold evZ goR;simp only[List.toList_toArray,if_true,List.reverse_nil,List.nil_append,hne,Bool.not_false]
     cases evR C.P C.pol C.rc C.f l.toArray (kids h.length l) l e (h++List.replicate (oR l) .dead) with
     | none=>rfl
     | some x =>
      obtain⟨y1,y2,y3⟩:=x
      by_cases hx:zOK C.pol C.f true l.toArray y1=true
      · simp only[hx,if_true]
      · simp only[hx,Bool.false_eq_true,if_false]
  simp only[hc,Bool.false_eq_true,if_false];unfold uN goR;simp only[List.toList_toArray,if_true,Bool.false_eq_true,if_false,List.reverse_nil,List.nil_append]
  cases evD C.P C.pol C.rc C.f l.toArray (vC C.pol C.f h.length l) l e (h++List.replicate (wF C.pol C.f l) .dead) with
  | none=>rfl
  | some x =>
   obtain⟨y1,y2,y3⟩:=x
   by_cases hx:bV C.pol C.f l.toArray y1=true
   · simp only[hx,if_true]
   · simp only[hx,Bool.false_eq_true,if_false]
theorem cU (z kp:Bool)(l:List Oper):goD C true z kp l fs k e h=goR C ⟨l.toArray,none,[],[],false,false⟩ l fs k e h:=rfl
theorem RG (l:List Oper):goD C false true false l fs k e h=goR C ⟨l.toArray,none,[],[],true,true⟩ l fs k e h:=rfl
theorem RH (l:List Oper):goD C false true true l fs k e h=goR C ⟨l.toArray,none,kids h.length l,[],true,true⟩ l fs k e (h++List.replicate (oR l) .dead):=rfl
theorem iV (kp:Bool)(l:List Oper):goD C false false kp l fs k e h=goR C ⟨l.toArray,none,vC C.pol C.f h.length l,[],true,false⟩ l fs k e (h++List.replicate (wF C.pol C.f l) .dead):=rfl
theorem Yw (x:Exi):goX C [] k x e h=kt C k x e h:=rfl
theorem Yv (c:Code):goX C (.seq c p::fs) k .normal e h=goC C c p fs k e h:=rfl
theorem mF (c:Code):goX C (.seq c p::fs) k .ret e h=goX C fs k .ret e h:=rfl
theorem pN (c:Code)(id:Nat):goX C (.seq c p::fs) k (.exit id) e h=goX C fs k (.exit id) e h:=rfl
theorem Yx (id:Nat):goX C (.blk id::fs) k .normal e h=goX C fs k .normal e h:=rfl
theorem mG (id:Nat):goX C (.blk id::fs) k .ret e h=goX C fs k .ret e h:=rfl
theorem pO (id id':Nat):goX C (.blk id::fs) k (.exit id') e h=if id'=id then goX C fs k .normal e h else goX C fs k (.exit id') e h:=rfl
theorem Yy (ops:Array Oper)(x:Bool):goR C ⟨ops,none,[],[],false,x⟩ [] fs k e h=goX C fs k .normal e h:=by cases x<;>rfl
theorem Sn (ops:Array Oper)(o:Oper):mY C ⟨ops,none,[],[],false,true⟩ o e h=we C.P C.pol C.rc C.f none o e h:=rfl
theorem YG {q:Rg}(hx:q.x=false)(o:Oper):mY C q o e h=zU C.P C.pol C.rc C.f q.N o e h:=by unfold mY;rw[hx];rfl
theorem cT (ops:Array Oper)(x:Bool)(o:Oper):goR C ⟨ops,none,[],[],false,x⟩ (o::rest) fs k e h=goW C (want ops o e) ⟨ops,none,[],[],false,x⟩ o rest fs k e h:=by
 cases x with
 | true =>
  unfold goR goW;simp only[Bool.false_eq_true,if_false,if_true,si,w5]
  cases want ops o e with
  | none=>rfl
  | some b => cases b with
   | false=>simp only[goR,Bool.false_eq_true,if_false,if_true]
   | true=>simp only[Sn];cases we C.P C.pol C.rc C.f none o e h with
    | none=>rfl
    | some x=>simp only[goR,Bool.false_eq_true,if_false,if_true]
 | false =>
  unfold goR goW;simp only[Bool.false_eq_true,if_false,wK,uC]
  cases want ops o e with
  | none=>rfl
  | some b => cases b with
   | false=>simp only[goR,Bool.false_eq_true,if_false]
   | true=>simp only[YG (q:=⟨ops,none,[],[],false,false⟩) C e h rfl];cases zU C.P C.pol C.rc C.f none o e h with
    | none=>rfl
    | some x=>simp only[goR,Bool.false_eq_true,if_false]
theorem cS (ops:Array Oper)(N:Option Nat)(acc:List (List Nat)):goR C ⟨ops,N,[],acc,true,false⟩ [] fs k e h=if bV C.pol C.f ops acc.reverse then goX C fs k .normal e h else none:=by
 unfold goR;simp only[if_true,Bool.false_eq_true,if_false,evD,List.append_nil]
theorem iU (ops:Array Oper)(N N':Option Nat)(Ns:List (Option Nat))(acc:List (List Nat))(o:Oper):goR C ⟨ops,N,N'::Ns,acc,true,false⟩ (o::rest) fs k e h=goW C (want ops o e) ⟨ops,N',Ns,w6 N' o e h::acc,true,false⟩ o rest fs k e h:=by
 unfold goR goW;simp only[if_true,Bool.false_eq_true,if_false,evD,uC]
 cases want ops o e with
 | none=>rfl
 | some b => cases b with
  | false =>
   simp only[goR,if_true,Bool.false_eq_true,if_false,List.reverse_cons,List.append_assoc,List.singleton_append]
   cases evD C.P C.pol C.rc C.f ops Ns rest (put e o.dst .und) h<;>rfl
  | true => simp only [YG (q := ⟨ops, N', Ns, w6 N' o e h :: acc, true, false⟩) C e h rfl]; cases zU C.P C.pol C.rc C.f N' o e h with
   | none=>rfl
   | some x =>
    simp only[goR,if_true,Bool.false_eq_true,if_false,List.reverse_cons,List.append_assoc,List.singleton_append]
    cases evD C.P C.pol C.rc C.f ops Ns rest (put e o.dst x.1) x.2<;>rfl
theorem cQ (ops:Array Oper)(acc:List (List Nat)):goR C ⟨ops,none,[],acc,true,true⟩ [] fs k e h=if zOK C.pol C.f false ops acc.reverse then goX C fs k .normal e h else none:=by
 unfold goR;simp only[if_true,evR,List.append_nil,List.isEmpty_nil,Bool.not_true]
theorem cR (ops:Array Oper)(N N':Option Nat)(Ns:List (Option Nat))(acc:List (List Nat)):goR C ⟨ops,N,N'::Ns,acc,true,true⟩ [] fs k e h=if zOK C.pol C.f true ops acc.reverse then goX C fs k .normal e h else none:=by
 unfold goR;simp only[if_true,evR,List.append_nil,List.isEmpty_cons,Bool.not_false]
theorem iS (ops:Array Oper)(acc:List (List Nat))(o:Oper):goR C ⟨ops,none,[],acc,true,true⟩ (o::rest) fs k e h=goW C (want ops o e) ⟨ops,none,[],(h.length::yb none o e h)::acc,true,true⟩ o rest fs k e h:=by
 unfold goR goW;simp only[if_true,evR,w5,hdN,List.tail_nil]
 cases want ops o e with
 | none=>rfl
 | some b => cases b with
  | false =>
   simp only[goR,if_true,List.reverse_cons,List.append_assoc,List.singleton_append]
   cases evR C.P C.pol C.rc C.f ops [] rest (put e o.dst .und) h<;>rfl
  | true =>
   rw[show mY C ⟨ops,none,[],(h.length::yb none o e h)::acc,true,true⟩ o e h=we C.P C.pol C.rc C.f none o e h from rfl]
   cases we C.P C.pol C.rc C.f none o e h with
   | none=>rfl
   | some x =>
    simp only[goR,if_true,List.reverse_cons,List.append_assoc,List.singleton_append]
    cases evR C.P C.pol C.rc C.f ops [] rest (put e o.dst x.1) x.2<;>rfl
theorem iT (ops:Array Oper)(N N' N'':Option Nat)(Ns:List (Option Nat))(acc:List (List Nat))(o:Oper):goR C ⟨ops,N,N'::N''::Ns,acc,true,true⟩ (o::rest) fs k e h=goW C (want ops o e) ⟨ops,N',N''::Ns,(h.length::yb N' o e h)::acc,true,true⟩ o rest fs k e h:=by
 unfold goR goW;simp only[if_true,evR,w5,hdN,List.tail_cons]
 cases want ops o e with
 | none=>rfl
 | some b => cases b with
  | false =>
   simp only[goR,if_true,List.reverse_cons,List.append_assoc,List.singleton_append]
   cases evR C.P C.pol C.rc C.f ops (N''::Ns) rest (put e o.dst .und) h<;>rfl
  | true =>
   rw[show mY C ⟨ops,N',N''::Ns,(h.length::yb N' o e h)::acc,true,true⟩ o e h=we C.P C.pol C.rc C.f N' o e h from rfl]
   cases we C.P C.pol C.rc C.f N' o e h with
   | none=>rfl
   | some x =>
    simp only[goR,if_true,List.reverse_cons,List.append_assoc,List.singleton_append]
    cases evR C.P C.pol C.rc C.f ops (N''::Ns) rest (put e o.dst x.1) x.2<;>rfl
theorem yJ {o:Oper}(ho:yS C.P C.pol C.rc C.f q.N o e h=none)(hb:isB o=false:=by rfl):goW C (some true) q o rest fs k e h=qM C q o rest fs k e h:=by
 unfold goW qM mY;have hb':bN q.N o=none:=by unfold bN;rw[hb];rfl
 simp only[ho,hb',bare,ite_self]
theorem lp {o:Oper}{x y:Option (V×Heap)}(hx:yS C.P C.pol C.rc C.f q.N o e h=x)(hy:zU C.P C.pol C.rc C.f q.N o e h=y):goW C (some true) q o rest fs k e h=r2 C (gO q.x (C.pol.own C.f) (bN q.N o) x y) o.dst q rest fs k e:=by
 unfold goW mY r2 gO;rw[hx,hy]
theorem Zt (b:Bool)(N:Option Nat)(x y:Option (V×Heap)):gO false b N x y=y:=rfl
theorem Zs (a:Bool)(N:Option Nat)(x y:Option (V×Heap)):gO a false N x y=y:=by cases a<;>rfl
theorem zD (N:Option Nat)(r:V×Heap)(y:Option (V×Heap)):gO true true N (some r) y=some r:=rfl
theorem zE (y:Option (V×Heap)):gO true true none none y=y:=rfl
theorem iR (o:Oper):goW C (some false) q o rest fs k e h=goR C q rest fs k (put e o.dst .und) h:=rfl
theorem jV (ops:Array Oper)(op:Op):want ops ⟨dst,op,ty,pos,after,none⟩ e=some true:=rfl
variable (g:Option (Nat×Bool))
theorem Uc (x:Operand):goW C (some true) q ⟨dst,.move x,ty,pos,after,g⟩ rest fs k e h=goR C q rest fs k (put e dst (opv C.P e ty x)) h:=(yJ C fs k e h q rest (by rfl)).trans rfl
theorem cp (x:Operand):goW C (some true) q ⟨dst,.assign x,ty,pos,after,g⟩ rest fs k e h=goR C q rest fs k (put e dst (opv C.P e ty x)) h:=(yJ C fs k e h q rest (by rfl)).trans rfl
theorem Ub (c a b:Operand):goW C (some true) q ⟨dst,.pick c a b,ty,pos,after,g⟩ rest fs k e h=r1 C (X9 (opv C.P e 0 c) (opv C.P e ty a) (opv C.P e ty b)) dst q rest fs k e h:=by
 rw[yJ C fs k e h q rest (by rfl)];simp only[qM,zU,r1,X9]
 cases opv C.P e 0 c with
 | t x=>cases x<;>rfl
 | _=>rfl
theorem ZR (t:TypeId):goW C (some true) q ⟨dst,.alloc t,ty,pos,after,g⟩ rest fs k e h=r2 C (me q.N (zeroOf C.P t) h) dst q rest fs k e:=by
 rw[yJ C fs k e h q rest (by rfl)];simp only[qM,zU,r2,me]
 cases zeroOf C.P t with
 | none=>rfl
 | some zs=>rfl
theorem Rm (t:TypeId)(x:Operand):goW C (some true) q ⟨dst,.box t x,ty,pos,after,g⟩ rest fs k e h=r2 C (QZ q.N (z7 (opv C.P e t x)) h) dst q rest fs k e:=(yJ C fs k e h q rest (by rfl)).trans rfl
def eD (P:Program)(t:TypeId)(ps:List (Nat×V)):Option V :=
 if uR P t then (match zeroOf P t with
  | some zs=>(match sP P t zs ps with|some cs=>some (.agg cs)|none=>none)
  | none=>none) else none
theorem ZP (t:TypeId)(l:List (Nat×Operand)):goW C (some true) q ⟨dst,.build t l.toArray,ty,pos,after,g⟩ rest fs k e h=r1 C (eD C.P t (xD C.P e (fTy C.P t) l)) dst q rest fs k e h:=by
 rw[yJ C fs k e h q rest (by rfl)];simp only[qM,zU,r1,eD]
 cases uR C.P t with
 | false=>rfl
 | true=>cases zeroOf C.P t with
  | none=>rfl
  | some zs=>simp only[if_true];cases sP C.P t zs (xD C.P e (fTy C.P t) l)<;>rfl
def eh (P:Program)(N:Option Nat)(t:TypeId)(len n:Nat)(ps:TypeId→List (Nat×V))(h:Heap):Option (V×Heap) :=
 match yo P t with
 | some el => if zC P el = 0 ∨ len * zC P el > 16777216 ∨ n ≠ len ∨ (zeroOf P el).isNone = true then none else
  match vk (zC P el) 0 (ps el) with
  | some css=>match w4 h css with
   | some (es,h')=>some (.sl (nI N h') 0 len (some len),nH N h' (.ts (zC P el) es))
   | none=>none
  | none=>none
 | none=>none
def zR (P:Program)(N:Option Nat)(t:TypeId)(len n:Nat)(ps:TypeId→List (Nat×V))(h:Heap):Option (V×Heap) :=
 match yo P t with
 | some el=>if zC P el=0∨len*zC P el > 16777216∨n≠len∨(zeroOf P el).isNone=true∨zC P el=1 then none else
  match vk (zC P el) 0 (ps el) with
  | some css=>some (.sl (nI N h) 0 len (some len),nH N h (.vs (zC P el) css))
  | none=>none
 | none=>none
theorem pL (t:TypeId)(len:Nat)(l:List (Nat×Operand)):goW C (some true) q ⟨dst,.buildSlice t len l.toArray,ty,pos,after,g⟩ rest fs k e h =
 r2 C (gO q.x (C.pol.own C.f) q.N (zR C.P q.N t len l.length (fun el=>xD C.P e (fun _=>el) l) h) (eh C.P q.N t len l.length (fun el=>xD C.P e (fun _=>el) l) h)) dst q rest fs k e :=
 lp C fs k e h q rest (by simp only[yS,zR,List.size_toArray];rfl) (by simp only[zU,eh,List.size_toArray];rfl)
theorem Ud (t:TypeId)(a:Operand):goW C (some true) q ⟨dst,.load t a,ty,pos,after,g⟩ rest fs k e h=r1 C (load C.P t (opv C.P e 0 a) h) dst q rest fs k e h:=by
 rw[yJ C fs k e h q rest (by rfl)];simp only[qM,zU,r1];cases load C.P t (opv C.P e 0 a) h<;>rfl
theorem ZL (t:TypeId)(a x:Operand):goW C (some true) q ⟨dst,.store t a x,ty,pos,after,g⟩ rest fs k e h=rh C (store C.P t (opv C.P e 0 a) (opv C.P e t x) h) dst q rest fs k e:=by
 rw[yJ C fs k e h q rest (by rfl)];simp only[qM,zU,rh];cases store C.P t (opv C.P e 0 a) (opv C.P e t x) h<;>rfl
theorem ZQ (op:BinOp)(t u:TypeId)(x y:Operand):goW C (some true) q ⟨dst,.binOp op t x y u,ty,pos,after,g⟩ rest fs k e h=r1 C (zm C.P op t y (opv C.P e t x) (opv C.P e u y)) dst q rest fs k e h:=by
 rw[yJ C fs k e h q rest (by rfl)];simp only[qM,zU,r1];cases zm C.P op t y (opv C.P e t x) (opv C.P e u y)<;>rfl
theorem Ua (op:UnOp)(t:TypeId)(x:Operand):goW C (some true) q ⟨dst,.unOp op t x,ty,pos,after,g⟩ rest fs k e h=r1 C (una op (opv C.P e t x)) dst q rest fs k e h:=by
 rw[yJ C fs k e h q rest (by rfl)];simp only[qM,zU,r1];cases una op (opv C.P e t x)<;>rfl
theorem iG (s d:TypeId)(x:Operand):goW C (some true) q ⟨dst,.convert s d x,ty,pos,after,g⟩ rest fs k e h=r1 C (conv C.P s d (opv C.P e s x) h) dst q rest fs k e h:=by
 rw[yJ C fs k e h q rest (by rfl)];simp only[qM,zU,r1];cases conv C.P s d (opv C.P e s x) h<;>rfl
def zn (P : Program) (N : Option Nat) (t : TypeId) (l c : V) (h : Heap) : Option (V × Heap) :=
 match yo P t,l,c with
 | some el, .t (.int _ n), .t (.int _ m) => match zeroOf P el with
  | some zs => match qO zs with
   | some z=>if zC P el=0∨n<0∨n≠m∨n.toNat*P.bytesOf el > ya∨n.toNat > ya then none else
    some (.sl (nI N h) 0 n.toNat (some n.toNat),nH N h (.ts (zC P el) (List.replicate n.toNat z)))
   | none=>none
  | none=>none
 | _,_,_=>none
def mkO (P:Program)(t:TypeId)(l c:V)(h:Heap):Option (V×Heap) :=
 match yo P t,l,c with
 | some el, .t (.int _ n), .t (.int _ m) => match zeroOf P el with
  | some zs=>if zC P el=0∨n<0∨n≠m∨n.toNat*P.bytesOf el > ya∨n.toNat > ya∨¬ (zs.all y5=true) then none else
   some (.sl h.length 0 n.toNat (some n.toNat),h++[.vs (zC P el) (List.replicate n.toNat zs)])
  | none=>none
 | _,_,_=>none
theorem mr (t:TypeId)(l c:Operand):goW C (some true) q ⟨dst,.makeSlice t l c,ty,pos,after,g⟩ rest fs k e h =
 r2 C (gO q.x (C.pol.own C.f) none (mkO C.P t (opv C.P e 0 l) (opv C.P e 0 c) h) (zn C.P q.N t (opv C.P e 0 l) (opv C.P e 0 c) h)) dst q rest fs k e :=
 lp C fs k e h q rest rfl rfl
theorem ZM (t:TypeId)(x:Operand)(lo hi mx:Option Operand):goW C (some true) q ⟨dst,.slice t x lo hi mx,ty,pos,after,g⟩ rest fs k e h=r1 C (cut C.P t (opv C.P e t x) (qL C.P e lo) (qL C.P e hi) (qL C.P e mx) h) dst q rest fs k e h:=by
 rw[yJ C fs k e h q rest (by rfl)];simp only[qM,zU,r1];cases cut C.P t (opv C.P e t x) (qL C.P e lo) (qL C.P e hi) (qL C.P e mx) h<;>rfl
theorem lZ (x:Operand):goW C (some true) q ⟨dst,.nilCheck x,ty,pos,after,g⟩ rest fs k e h=r1 C (bZ (opv C.P e 0 x)) dst q rest fs k e h:=by
 rw[yJ C fs k e h q rest (by rfl)];simp only[qM,zU,r1];cases bZ (opv C.P e 0 x)<;>rfl
theorem mv (s:TypeId)(x:Operand)(i:Nat):goW C (some true) q ⟨dst,.fieldAddr s x i,ty,pos,after,g⟩ rest fs k e h=r1 C (sE C.P s (opv C.P e 0 x) i) dst q rest fs k e h:=by
 rw[yJ C fs k e h q rest (by rfl)];simp only[qM,zU,r1];cases sE C.P s (opv C.P e 0 x) i<;>rfl
theorem ZO (s:TypeId)(x:Operand)(i:Nat):goW C (some true) q ⟨dst,.field s x i,ty,pos,after,g⟩ rest fs k e h=r1 C (fld C.P s (opv C.P e s x) i) dst q rest fs k e h:=by
 rw[yJ C fs k e h q rest (by rfl)];simp only[qM,zU,r1];cases fld C.P s (opv C.P e s x) i<;>rfl
theorem mu (t:TypeId)(x i:Operand):goW C (some true) q ⟨dst,.indexAddr t x i,ty,pos,after,g⟩ rest fs k e h=r1 C (vU C.P t (opv C.P e t x) (opv C.P e 0 i) h) dst q rest fs k e h:=by
 rw[yJ C fs k e h q rest (by rfl)];simp only[qM,zU,r1];cases vU C.P t (opv C.P e t x) (opv C.P e 0 i) h<;>rfl
theorem ZN (t:TypeId)(x i:Operand):goW C (some true) q ⟨dst,.index t x i,ty,pos,after,g⟩ rest fs k e h=r1 C (R8 C.P t (opv C.P e t x) (opv C.P e 0 i)) dst q rest fs k e h:=by
 rw[yJ C fs k e h q rest (by rfl)];simp only[qM,zU,r1,R8]
 cases opv C.P e t x with
 | t a => cases a with
  | str l => cases opv C.P e 0 i with
   | t b => cases b with
    | int kk n=>simp only;cases isStr C.P t with
     | false=>rfl
     | true=>simp only[if_true];cases uJ l n<;>rfl
    | _=>rfl
   | _=>rfl
  | _=>rfl
 | _=>rfl
theorem iF (x:Operand)(i:Nat):goW C (some true) q ⟨dst,.extract x i,ty,pos,after,g⟩ rest fs k e h=r1 C (Rb (opv C.P e 0 x) i) dst q rest fs k e h:=by
 rw[yJ C fs k e h q rest (by rfl)];simp only[qM,zU,r1,Rb]
 cases opv C.P e 0 x with
 | tup vs=>simp only;cases vs[i]? <;> rfl
 | _=>rfl
def yG (P:Program)(b:Builtin)(args:List V)(tys:List TypeId)(h:Heap):Option (V×Heap) :=
 match b,args,tys with
 | .append,[s,x],[t,u]=>yn P t u s x h
 | .clear,[x],[t]=>yr P t x h
 | _,_,_=>none
theorem iH (b:Builtin)(args:List Operand)(tys:List TypeId):goW C (some true) q ⟨dst,.call ⟨.builtin b,args.toArray,tys.toArray⟩,ty,pos,after,g⟩ rest fs k e h =
 r2 C (gO q.x (C.pol.own C.f) none (yG C.P b (yl C.P e args tys) tys h) (blt C.P q.N b tys (yl C.P e args tys) h)) dst q rest fs k e :=
 lp C fs k e h q rest rfl rfl
def yC (r:Option w7)(h:Heap):Option (V×Heap) :=
 match r with
 | some (.call v h1)=>if zQ v&&h1.all yt then x7 none [] v h1 h else none
 | _=>none
def yD (rc:Rec)(g:Nat)(az:Option (List V))(h:Heap):Option (V×Heap) :=
 match az with
 | some az=>yC (rc (.callO false g az [])) h
 | none=>none
def yH (r:Option w7):Option (V×Heap) :=
 match r with
 | some (.call v h1)=>some (v,h1)
 | _=>none
def yA (C:Cx)(m:PM)(fv:Option (Nat×List V))(args:List V)(h:Heap):Option (V×Heap) :=
 match fv with
 | some (g,caps)=>(match m with
  | .brw=>yD C.rc g (yI.snapVs h (args++caps)) h
  | .all=>yH (C.rc (.callO false g (args++caps) h))
  | _=>none)
 | none=>none
theorem TQ (x:Operand)(args:List Operand)(tys:List TypeId):zU C.P C.pol C.rc C.f q.N ⟨dst,.call ⟨.value x,args.toArray,tys.toArray⟩,ty,pos,after,g⟩ e h=sj C q.N (C.pol.pm C.f (dst.getD 0)) (fnV (opv C.P e 0 x)) (yl C.P e args tys) h:=by
 simp only[zU,sj]
 cases fnV (opv C.P e 0 x) with
 | none=>rfl
 | some y =>
  obtain⟨g,caps⟩:=y;simp only[wL]
  cases C.pol.pm C.f (dst.getD 0) with
  | pure => simp only; cases asArg.asArgs (yl C.P e args tys ++ caps) with
   | none=>simp only;cases yI.snapVs h (yl C.P e args tys++caps) with
    | none=>rfl
    | some az=>simp only;cases zr C.rc g az<;>rfl
   | some az=>simp only;cases zr C.rc g az<;>rfl
  | frz=>simp only;cases yP.gives h (yl C.P e args tys++caps) with
   | none=>rfl
   | some az=>simp only;cases zr C.rc g az.1<;>rfl
  | opn gv =>
   simp only[Xa]
   cases C.rc (.callO gv g (yj 0 (yl C.P e args tys++caps) h).1 (yj 0 (yl C.P e args tys++caps) h).2) with
   | none=>rfl
   | some r=>cases r<;>rfl
  | brw=>rfl
  | all=>rfl
theorem TP (x:Operand)(args:List Operand)(tys:List TypeId):yS C.P C.pol C.rc C.f q.N ⟨dst,.call ⟨.value x,args.toArray,tys.toArray⟩,ty,pos,after,g⟩ e h=yA C (C.pol.pm C.f (dst.getD 0)) (fnV (opv C.P e 0 x)) (yl C.P e args tys) h:=by
 simp only[yS,yA]
 cases fnV (opv C.P e 0 x) with
 | none=>rfl
 | some y =>
  obtain⟨g,caps⟩:=y;simp only
  cases C.pol.pm C.f (dst.getD 0) with
  | brw =>
   simp only[n5,yD,yC]
   cases yI.snapVs h (yl C.P e args tys++caps)<;>rfl
  | _=>rfl
theorem Uf (x:Operand)(args:List Operand)(tys:List TypeId):goW C (some true) q ⟨dst,.call ⟨.value x,args.toArray,tys.toArray⟩,ty,pos,after,g⟩ rest fs k e h =
 r2 C (gO q.x (C.pol.own C.f) none (yA C (C.pol.pm C.f (dst.getD 0)) (fnV (opv C.P e 0 x)) (yl C.P e args tys) h) (sj C q.N (C.pol.pm C.f (dst.getD 0)) (fnV (opv C.P e 0 x)) (yl C.P e args tys) h)) dst q rest fs k e :=
 lp C fs k e h q rest (TP C e h q dst ty pos after g x args tys) (TQ C e h q dst ty pos after g x args tys)
theorem ka (fn:Nat)(caps:List Operand):goW C (some true) q ⟨dst,.makeFunc (.func fn) #[] caps.toArray,ty,pos,after,g⟩ rest fs k e h=goR C q rest fs k (put e dst (.fn fn (yl C.P e caps []))) h:=(yJ C fs k e h q rest (by rfl)).trans rfl
theorem ZD (v:V):r1 C (some v) dst q rest fs k e h=goR C q rest fs k (put e dst v) h:=rfl
theorem ZC (v:V):r2 C (some (v,h)) dst q rest fs k e=goR C q rest fs k (put e dst v) h:=rfl
theorem ZA:rh C (some h) dst q rest fs k e=goR C q rest fs k (put e dst .und) h:=rfl
theorem YU (a b:Code):cK C (.t (.bool true)) a b p fs k e h=goC C a (2*p) fs k e h:=rfl
theorem bH (a b:Code):cK C (.t (.bool false)) a b p fs k e h=goC C b (2*p+1) fs k e h:=rfl
theorem Vv {C:Cx}{b:Bool}{a c:Code}{p:Nat}{fs:List Fr}{k:rI}{e:Env}{h:Heap}{r:Option w7}(ht:b=true→goC C a (2*p) fs k e h=r)(hf:b=false→goC C c (2*p+1) fs k e h=r):cK C (.t (.bool b)) a c p fs k e h=r:=by
 cases b with
 | true=>exact ht rfl
 | false=>exact hf rfl
theorem Yg (x:Exi)(vals:List V)(outs:List Nat):lK C (some (.loop x vals h)) outs fs k=goX C fs k x (zb outs vals) h:=rfl
theorem bg (res:List ResultVar):kt C (.call res) .ret e h=bX C.P C.m (vW C.P e h res) h:=rfl
theorem mH (res:List ResultVar):kt C (.call res) .normal e h=bX C.P C.m (vW C.P e h res) h:=rfl
theorem ga (gv:Bool)(res:List ResultVar):kt C (.callO gv res) .ret e h=lQ gv C.m (vW C.P e h res) h:=rfl
theorem pQ (gv:Bool)(res:List ResultVar):kt C (.callO gv res) .normal e h=lQ gv C.m (vW C.P e h res) h:=rfl
theorem kr:kt C (.loop p) .normal e h=C.rc (.loop C.f p C.m (yj C.m ((C.pol.live C.f p).map e) h).1 (yj C.m ((C.pol.live C.f p).map e) h).2):=rfl
theorem gd (id:Nat):kt C (.loop p) (.exit id) e h=some (.loop (.exit id) (yj C.m ((C.pol.outs C.f p).map e) h).1 (yj C.m ((C.pol.outs C.f p).map e) h).2):=rfl
theorem gb:kt C (.loop p) .ret e h=some (.loop .ret (yj C.m ((C.pol.outs C.f p).map e) h).1 (yj C.m ((C.pol.outs C.f p).map e) h).2):=rfl
end
theorem VR (e:Env)(d:Nat)(v:V)(t:Nat):upd e d v t=if t=d then v else e t:=rfl
theorem dQ (e:Env)(d:Nat)(v:V):put e (some d) v=upd e d v:=rfl
theorem dR (e:Env)(v:V):put e none v=e:=rfl
theorem GO:type_of% Yz∧type_of% cY∧type_of% iW∧type_of% cW∧type_of% cX∧type_of% YA∧type_of% cV∧type_of% kn∧type_of% Zt∧type_of% Zs∧type_of% cU∧type_of% RG∧type_of% RH∧type_of% iV∧type_of% cQ∧type_of% iS∧type_of% cR∧type_of% iT∧type_of% Yw∧type_of% Yv∧type_of% mF∧type_of% pN∧type_of% Yx∧type_of% mG∧type_of% pO∧type_of% Yy∧type_of% cT∧type_of% cS∧type_of% iU∧type_of% iR∧type_of% Uc∧type_of% cp∧type_of% Ub∧type_of% ZR∧type_of% Rm∧type_of% ZP∧type_of% pL∧type_of% Ud∧type_of% ZL∧type_of% ZQ∧type_of% Ua∧type_of% iG∧type_of% mr∧type_of% ZM∧type_of% lZ∧type_of% mv∧type_of% ZO∧type_of% mu∧type_of% ZN∧type_of% iF∧type_of% iH∧type_of% Uf∧type_of% ka∧type_of% ZD∧type_of% ZC∧type_of% ZA∧type_of% YU∧type_of% bH∧type_of% Yg∧type_of% bg∧type_of% mH∧type_of% ga∧type_of% pQ∧type_of% kr∧type_of% gd∧type_of% gb :=
 ⟨Yz,cY,iW,cW,cX,YA,cV,kn,Zt,Zs,cU,RG,RH,iV,cQ,iS,cR,iT,Yw,Yv,mF,pN,Yx,mG,pO,Yy,cT,cS,iU,iR,Uc,cp,Ub,ZR,Rm,ZP,pL,Ud,ZL,ZQ,Ua,iG,mr,ZM,lZ,mv,ZO,mu,ZN,iF,iH,Uf,ka,ZD,ZC,ZA,YU,bH,Yg,bg,mH,ga,pQ,kr,gd,gb⟩
end Go.Proofs.YtefkoljdebekdaaGreatDoor.E
/- What a law's text needs besides: shapes of arguments, arithmetic in range, the policy's guard. Conditions: those of each lemma. -/
namespace Go.Proofs.YtefkoljdebekdaaGreatDoor.E
open Go.Proofs.Tryz
def bQ (P:Program)(pm:Nat→Nat→PM)(live outs:Nat→Nat→List Nat)(dr:Nat→Bool)(ext:Nat→List V→Option V)(extO:Nat→List V→Heap→Option (V×Heap):=fun _ _ _=>none)(ow:Nat→Bool:=fun _=>false)(gh:Nat→Nat→List Gh:=fun _ _=>[])(dm:Nat→Nat→Bool:=fun _ _=>false):Pol :=
 let p0:Pol:=⟨pm,live,outs,fun _=>false,dr,ext,extO,ow,gh,dm⟩
 ⟨pm,live,outs,fun f=>match P.funcs[f]? with
  | some fn=>match fn.body with
   | some c=>!xn (oQ P p0 f) fn.ntmps c
   | none=>false
  | none=>false,dr,ext,extO,ow,gh,dm⟩
theorem dU {P:Program}{pm:Nat→Nat→PM}{live outs:Nat→Nat→List Nat}{dr:Nat→Bool}{ext:Nat→List V→Option V}{extO:Nat→List V→Heap→Option (V×Heap)}{ow:Nat→Bool}{gh:Nat→Nat→List Gh}{dm:Nat→Nat→Bool}:∀ f fn c,(bQ P pm live outs dr ext extO ow gh dm).no f=false→P.funcs[f]? = some fn→fn.body=some c→xn (oQ P (bQ P pm live outs dr ext extO ow gh dm) f) fn.ntmps c=true:=by
 intro f fn c h h1 h2;simp only[bQ]at h;rw[h1]at h;simp only[h2]at h;have:xn (oQ P ⟨pm,live,outs,fun _=>false,dr,ext,extO,ow,gh,dm⟩ f) fn.ntmps c=true:=by simpa using h
 exact this
variable {P:Program}
theorem WT.Sb {t:TypeId}{k:IntKind}{cs:List T}(ht:P.underlying t=some (.int k))(h:WT P t cs):∃ n,cs=[.int k n]∧(Lit.int k n).wf=true:=by
 cases h with
 | int _ k' n h hw=>rw[ht]at h;cases h;exact⟨n,rfl,hw⟩
 | bool _ b h=>rw[ht]at h;cases h
 | str _ l h=>rw[ht]at h;cases h
 | list _ e es h=>rw[ht]at h;cases h
 | struct _ fs cs h=>rw[ht]at h;cases h
theorem WT.WY {t e:TypeId}{cs:List T}(ht:P.underlying t=some (.slice e))(h:WT P t cs):∃ es,cs=[.list (P.cellsOf e) es]∧es.length≤9223372036854775807∧∀ c∈es,WT P e c:=by
 cases h with
 | int _ k' n h hw=>rw[ht]at h;cases h
 | bool _ b h=>rw[ht]at h;cases h
 | str _ l h hl=>rw[ht]at h;cases h
 | list _ e es h hl hs=>rw[ht]at h;cases h;exact⟨es,rfl,hl,hs⟩
 | struct _ fs cs h=>rw[ht]at h;cases h
theorem WTA.Sa {xs:List V}(h:WTA P [] xs):xs=[]:=by cases h;rfl
theorem WTA.WZ {t:TypeId}{ts:List TypeId}{xs:List V}(h:WTA P (t::ts) xs):∃ cs v vs,xs=v::vs∧WT P t cs∧zd (yd P t) (cs.map .t)=some v∧WTA P ts vs:=by
 cases h with
 | cons _ _ cs v vs h hp hs=>exact⟨cs,v,vs,rfl,h,hp,hs⟩
theorem zi {x:Int}(h : -9223372036854775808≤x∧x≤9223372036854775807):IntKind.i64.wrap x=x:=Go.IntWalk.i64_in x h
def eH:List Nat→Nat→Nat→Option Nat
 | [],_,_=>none
 | x::xs,r,n=>if x=r then some n else eH xs r (n+1)
theorem Yo:∀ (ids:List Nat) (r n:Nat),eH ids r n=if ids.idxOf r<ids.length then some (ids.idxOf r+n) else none
 | [],r,n=>by simp[eH]
 | x::xs,r,n=>by
  simp only[eH]
  by_cases h:x=r
  · subst h;simp
  · rw[if_neg h,Yo xs r (n+1),List.idxOf_cons];have:(x==r)=false:=by simpa using h
    simp only[this,cond_false,List.length_cons,Nat.add_lt_add_iff_right]
    split
    · congr 1;omega
    · rfl
theorem idx_eq (ids:List Nat)(r:Nat):idx ids r=eH ids r 0:=by rw[Yo];rfl
def R9 (h:Heap)(r:Nat):Blk:=h[r]?.getD .dead
def oX (ids:List Nat)(h:Heap):List Nat→Heap
 | []=>[]
 | r::rs=>zj (idx ids) (R9 h r)::oX ids h rs
theorem dS (ids:List Nat)(h:Heap):∀ l:List Nat,oX ids h l=l.map fun r=>zj (idx ids) (h[r]?.getD .dead)
 | []=>rfl
 | r::rs=>by simp only[oX,R9,List.map_cons,dS ids h rs]
def mZ (h:Heap):List Nat→List Nat
 | []=>[]
 | r::rs=>xz h r++mZ h rs
theorem bI (h:Heap):∀ l:List Nat,mZ h l=l.flatMap (xz h)
 | []=>rfl
 | r::rs=>by simp only[mZ,List.flatMap_cons,bI h rs]
def tA (h:Heap):Nat→List Nat→List Nat
 | 0,ids=>ids
 | n+1,ids=>tA h n (yL ids (mZ h ids))
theorem rO (h:Heap):∀ (n:Nat) (ids:List Nat),tA h n ids=reach h n ids
 | 0,ids=>rfl
 | n+1,ids=>by simp only[tA,reach,bI,rO h n]
theorem lY (h:Heap)(args:List V):xy h args=tA h 3 (yL [] (refs.refss args)):=(rO h 3 _).symm
def rF:Nat→Nat→List Nat
 | 0,_=>[]
 | n+1,k=>k::rF n (k+1)
theorem iv:∀ (n k:Nat),rF n k=List.range' k n
 | 0,k=>rfl
 | n+1,k=>by simp only[rF,List.range'_succ,iv n (k+1)]
def pK (ids:List Nat)(vals:List V)(h:Heap):List V×Heap:=(ren.rens (idx ids) vals,oX ids h ids)
theorem dW (m:Nat)(vals:List V)(h:Heap):yj m vals h=pK (tA h 3 (yL (rF m 0) (refs.refss vals))) vals h:=by
 unfold yj pK;simp only[rO,dS,iv,List.range_eq_range']
theorem pK_1 (ids:List Nat)(vals:List V)(h:Heap):(pK ids vals h).1=ren.rens (idx ids) vals:=rfl
theorem pK_2 (ids:List Nat)(vals:List V)(h:Heap):(pK ids vals h).2=oX ids h ids:=rfl
theorem iD (t:TypeId):(Op.alloc t).operands.toList=[]:=rfl
theorem dZ (x:Operand):(Op.move x).operands.toList=[x]:=rfl
theorem lX (x:Operand):(Op.assign x).operands.toList=[x]:=rfl
theorem ZI (t:TypeId)(x:Operand):(Op.box t x).operands.toList=[x]:=rfl
theorem ca (t:TypeId)(x:Operand):(Op.load t x).operands.toList=[x]:=rfl
theorem dX (o:UnOp)(t:TypeId)(x:Operand):(Op.unOp o t x).operands.toList=[x]:=rfl
theorem mo (t u:TypeId)(x:Operand):(Op.convert t u x).operands.toList=[x]:=rfl
theorem pJ (x:Operand):(Op.nilCheck x).operands.toList=[x]:=rfl
theorem qG (t:TypeId)(x:Operand)(i:Nat):(Op.fieldAddr t x i).operands.toList=[x]:=rfl
theorem iA (t:TypeId)(x:Operand)(i:Nat):(Op.field t x i).operands.toList=[x]:=rfl
theorem mn (x:Operand)(i:Nat):(Op.extract x i).operands.toList=[x]:=rfl
theorem dY (c a b:Operand):(Op.pick c a b).operands.toList=[c,a,b]:=rfl
theorem iB (t:TypeId)(l:List (Nat×Operand)):(Op.build t l.toArray).operands.toList=l.map (·.2):=by simp[Op.operands]
theorem sR (t:TypeId)(n:Nat)(l:List (Nat×Operand)):(Op.buildSlice t n l.toArray).operands.toList=l.map (·.2):=by simp[Op.operands]
theorem ix (t:TypeId)(x y:Operand):(Op.store t x y).operands.toList=[x,y]:=rfl
theorem iC (o:BinOp)(t u:TypeId)(x y:Operand):(Op.binOp o t x y u).operands.toList=[x,y]:=rfl
theorem qE (t:TypeId)(x y:Operand):(Op.makeSlice t x y).operands.toList=[x,y]:=rfl
theorem qF (t:TypeId)(x y:Operand):(Op.indexAddr t x y).operands.toList=[x,y]:=rfl
theorem iz (t:TypeId)(x y:Operand):(Op.index t x y).operands.toList=[x,y]:=rfl
theorem iy (t:TypeId)(x:Operand)(lo hi mx:Option Operand):(Op.slice t x lo hi mx).operands.toList=x::(lo.toList++hi.toList++mx.toList):=by cases lo<;>cases hi<;>cases mx<;>rfl
theorem cb (f:Operand)(l:List Operand)(tys:Array TypeId):(Op.call ⟨.value f,l.toArray,tys⟩).operands.toList=f::l:=by simp[Op.operands,Call.operands]
theorem mq (b:Builtin)(l:List Operand)(tys:Array TypeId):(Op.call ⟨.builtin b,l.toArray,tys⟩).operands.toList=l:=by simp[Op.operands,Call.operands]
theorem OPL:type_of% iD∧type_of% dZ∧type_of% lX∧type_of% ZI∧type_of% ca∧type_of% dX∧type_of% mo∧type_of% pJ∧type_of% qG∧type_of% iA∧type_of% mn∧type_of% dY∧type_of% iB∧type_of% sR∧type_of% ix∧type_of% iC∧type_of% qE∧type_of% qF∧type_of% iz∧type_of% iy∧type_of% cb∧type_of% mq :=
 ⟨iD,dZ,lX,ZI,ca,dX,mo,pJ,qG,iA,mn,dY,iB,sR,ix,iC,qE,qF,iz,iy,cb,mq⟩
def qq:List Oper→Nat→Option Nat
 | [],_=>none
 | o::_,0=>o.dst
 | _::r,n+1=>qq r n
theorem bq:∀ (l:List Oper) (j:Nat),qq l j=(l[j]?).bind (·.dst)
 | [],j=>by simp[qq]
 | o::r,0=>rfl
 | o::r,j+1=>by simp[qq,bq r j]
def qi (v:V)(b:Bool):Option Bool :=
 match v with
 | .t (.bool c)=>some (c==b)
 | .und=>some false
 | _=>none
def UU (d:Option Nat)(b:Bool)(e:Env):Option Bool :=
 match d with
 | some d=>qi (e d) b
 | none=>none
theorem lF (l:List Oper)(dst:Option Nat)(op:Op)(ty:TypeId)(pos:String)(after:Array Edge)(j:Nat)(b:Bool)(e:Env):want l.toArray ⟨dst,op,ty,pos,after,some (j,b)⟩ e=UU (qq l j) b e:=by
 unfold want UU qi;rw[bq];simp only[List.getElem?_toArray]
 cases (l[j]?).bind (·.dst)<;>rfl
theorem lG (d:Nat)(b:Bool)(e:Env):UU (some d) b e=qi (e d) b:=rfl
theorem du:qi (.t (.bool true)) true=some true:=rfl
theorem dw:qi (.t (.bool true)) false=some false:=rfl
theorem dx:qi (.t (.bool false)) true=some false:=rfl
theorem dz:qi (.t (.bool false)) false=some true:=rfl
theorem Zl (b:Bool):qi .und b=some false:=rfl
theorem b9 {α:Type}(es:List α)(k:Nat):uJ es (k:Int)=es[k]? := by simp[uJ]
theorem tJ {α:Type}(es:List α):uJ es 0=es[0]? := by simp[uJ]
theorem zu {pol:Pol}{g:Nat}{args:List V}{v:V}(h:EV P pol (.call g args [])=some (.call v [])):zr (EV P pol) g args=some v:=by
 unfold zr;rw[h]
end Go.Proofs.YtefkoljdebekdaaGreatDoor.E
/- Where a walk stands at a test: its two roads. Conditions: those of each lemma. -/
namespace Go.Proofs.YtefkoljdebekdaaGreatDoor.E
open Go.Proofs.Tryz
section
variable {C:Cx} {a c:Code} {n:Nat} {fs:List Fr} {k:rI} {e:Env} {h:Heap} {r:Option w7} {p:Prop} [Decidable p]
theorem mc {b:Bool}(ht:b=true→goC C a (2*n) fs k e h=r)(hf:b=false→goC C c (2*n+1) fs k e h=r):cK C (.t (.bool b)) a c n fs k e h=r:=Vv ht hf
variable {q:Rg} {o:Oper} {rest:List Oper} {w:Bool}
theorem nZ {b:Bool}(ht:b=true→goW C (qi (.t (.bool true)) w) q o rest fs k e h=r)(hf:b=false→goW C (qi (.t (.bool false)) w) q o rest fs k e h=r):goW C (qi (.t (.bool b)) w) q o rest fs k e h=r:=by
 cases b with
 | true=>exact ht rfl
 | false=>exact hf rfl
end
def left (n:Int)(b:Nat):Int:=if n - (b:Int)<0 then -1 else n - (b:Int)
theorem left_eq {n:Int}{b:Nat}(h:(b:Int)≤n):left n b=n - (b:Int):=by unfold left;rw[if_neg (by omega)]
theorem y6 {m n:Nat}(h:m≤n):(m≤n)=True:=eq_true h
theorem sI {α:Type}(pre:List α)(b:α)(rest:List α):(pre++b::rest)[pre.length]? = some b:=by simp
theorem jo:∀ l:List T,asArg.asArgs (l.map V.t)=some (l.map V.t)
 | []=>rfl
 | x::l=>by simp only[List.map_cons,asArg.asArgs,asArg,jo l]
theorem fE:∀ l:List T,refs.refss (l.map V.t)=[]
 | []=>rfl
 | x::l=>by simp only[List.map_cons,refs.refss,refs,fE l,List.append_nil]
theorem aR (m:Nat→Option Nat):∀ l:List T,ren.rens m (l.map V.t)=l.map V.t
 | []=>rfl
 | x::l=>by simp only[List.map_cons,ren.rens,ren,aR m l]
theorem Zi:∀ l:List T,ti (l.map V.t)=some l
 | []=>rfl
 | x::l=>by simp only[List.map_cons,ti,Zi l]
section
variable {P:Program} {ty:TypeId} {k1 k2:IntKind} {x y:Int} {h:Heap}
theorem fZ {d mx:Nat}(h0:0≤x)(h1:x≤(mx:Int)):a7 d mx (some (.t (.int k1 x)))=some x.toNat:=by
 simp only[a7];rw[if_pos ⟨h0,h1⟩]
theorem Zb {n:Nat}(h0:0≤x)(h1:x≤y)(h2:y≤(n:Int)):l6 n (some (.t (.int k1 x))) (some (.t (.int k2 y)))=some (x.toNat,y.toNat):=by
 unfold l6;rw[fZ (by omega) h2];simp only;rw[fZ h0 (by omega)]
theorem Zc {n:Nat}(h0:0≤x)(h1:x≤(n:Int)):l6 n (some (.t (.int k1 x))) none=some (x.toNat,n):=by
 unfold l6;simp only[a7];rw[if_pos ⟨h0,h1⟩]
theorem Zd {n:Nat}(h0:0≤y)(h2:y≤(n:Int)):l6 n none (some (.t (.int k2 y)))=some (0,y.toNat):=by
 unfold l6;rw[fZ h0 h2];simp only[a7]
theorem br {l:List UInt8}(h0:0≤x)(h1:x≤y)(h2:y≤(l.length:Int)):cut P ty (.t (.str l)) (some (.t (.int k1 x))) (some (.t (.int k2 y))) none h=if isStr P ty=true then some (.t (.str ((l.drop x.toNat).take (y.toNat - x.toNat)))) else none:=by
 simp only[cut,Zb h0 h1 h2,Option.isNone_none,Bool.and_true]
theorem bu {l:List UInt8}(h0:0≤x)(h1:x≤(l.length:Int)):cut P ty (.t (.str l)) (some (.t (.int k1 x))) none none h=if isStr P ty=true then some (.t (.str (l.drop x.toNat))) else none:=by
 simp only[cut,Zc h0 h1,Option.isNone_none,Bool.and_true];rw[List.take_of_length_le (by simp)]
theorem bw {l:List UInt8}(h0:0≤y)(h2:y≤(l.length:Int)):cut P ty (.t (.str l)) none (some (.t (.int k2 y))) none h=if isStr P ty=true then some (.t (.str (l.take y.toNat))) else none:=by
 simp only[cut,Zd h0 h2,Option.isNone_none,Bool.and_true,List.drop_zero,Nat.sub_zero]
theorem gu {sz:Nat}{es:List (List T)}(h0:0≤x)(h1:x≤y)(h2:y≤(es.length:Int)):cut P ty (.t (.list sz es)) (some (.t (.int k1 x))) (some (.t (.int k2 y))) none h=match yo P ty with
 | some el=>if (sz==zC P el||es.isEmpty)=true then some (.t (.list sz ((es.drop x.toNat).take (y.toNat - x.toNat)))) else none
 | none=>none:=by
 simp only[cut,Zb h0 h1 h2,Option.isNone_none,Bool.and_true]
 cases yo P ty<;>rfl
theorem gw {sz:Nat}{es:List (List T)}(h0:0≤x)(h1:x≤(es.length:Int)):cut P ty (.t (.list sz es)) (some (.t (.int k1 x))) none none h=match yo P ty with
 | some el=>if (sz==zC P el||es.isEmpty)=true then some (.t (.list sz (es.drop x.toNat))) else none
 | none=>none:=by
 have e:(es.drop x.toNat).take (es.length - x.toNat)=es.drop x.toNat:=List.take_of_length_le (by simp);simp only[cut,Zc h0 h1,Option.isNone_none,Bool.and_true,e]
 cases yo P ty<;>rfl
theorem gx {sz:Nat}{es:List (List T)}(h0:0≤y)(h2:y≤(es.length:Int)):cut P ty (.t (.list sz es)) none (some (.t (.int k2 y))) none h=match yo P ty with
 | some el=>if (sz==zC P el||es.isEmpty)=true then some (.t (.list sz (es.take y.toNat))) else none
 | none=>none:=by
 simp only[cut,Zd h0 h2,Option.isNone_none,Bool.and_true,List.drop_zero,Nat.sub_zero]
 cases yo P ty<;>rfl
theorem YJ {r off len:Nat}{cap:Option Nat}(h0:0≤x)(h1:x≤y)(h2:y≤(len:Int)):cut P ty (.sl r off len cap) (some (.t (.int k1 x))) (some (.t (.int k2 y))) none h=match yo P ty with
 | some el=>if ((h[r]?.bind xt)==some (zC P el))=true then some (.sl r (off+x.toNat) (y.toNat - x.toNat) (cap.map (· - x.toNat))) else none
 | none=>none:=by
 simp only[cut,Zb h0 h1 h2]
 cases yo P ty<;>rfl
theorem YK {r off len:Nat}{cap:Option Nat}(h0:0≤x)(h1:x≤(len:Int)):cut P ty (.sl r off len cap) (some (.t (.int k1 x))) none none h=match yo P ty with
 | some el=>if ((h[r]?.bind xt)==some (zC P el))=true then some (.sl r (off+x.toNat) (len - x.toNat) (cap.map (· - x.toNat))) else none
 | none=>none:=by
 simp only[cut,Zc h0 h1]
 cases yo P ty<;>rfl
theorem YL {r off len:Nat}{cap:Option Nat}(h0:0≤y)(h2:y≤(len:Int)):cut P ty (.sl r off len cap) none (some (.t (.int k2 y))) none h=match yo P ty with
 | some el=>if ((h[r]?.bind xt)==some (zC P el))=true then some (.sl r (off+0) (y.toNat - 0) (cap.map (· - 0))) else none
 | none=>none:=by
 simp only[cut,Zd h0 h2]
 cases yo P ty<;>rfl
theorem lL (n:Nat):((n:Int)+1).toNat=n+1:=by omega
end
theorem b8 {α:Type}(es:List α):uJ es (1:Int)=es[1]? := rfl
theorem b7 {α:Type}(es:List α):uJ es (2:Int)=es[2]? := rfl
end Go.Proofs.YtefkoljdebekdaaGreatDoor.E
/- The machine's equations in one. Conditions: none. -/
namespace Go.Proofs.YtefkoljdebekdaaGreatDoor.E
open Go.Proofs.Tryz
theorem GP0:type_of% @tA.eq_1∧type_of% @tA.eq_2∧type_of% @yL.eq_1∧type_of% @yL.eq_2∧type_of% @mZ.eq_1∧type_of% @mZ.eq_2∧type_of% @rF.eq_1∧type_of% @rF.eq_2∧type_of% @eH.eq_1∧type_of% @eH.eq_2∧type_of% @ren.rens.eq_1∧type_of% @ren.rens.eq_2∧type_of% @oX.eq_1∧type_of% @oX.eq_2∧type_of% @R9.eq_1∧type_of% @xz.eq_1∧type_of% @nI.eq_1∧type_of% @nI.eq_2∧type_of% @nH.eq_1∧type_of% @nH.eq_2∧type_of% @vC.eq_1∧type_of% @vC.eq_2∧type_of% @wF.eq_1∧type_of% @wF.eq_2∧type_of% @xr.eq_1∧type_of% @kids.eq_1∧type_of% @kids.eq_2∧type_of% @oR.eq_1∧type_of% @oR.eq_2∧type_of% @isB.eq_1∧type_of% @ym.eq_1∧type_of% @yb.eq_1∧type_of% @w6.eq_1∧type_of% @wN.eq_1∧type_of% @nL.eq_1∧type_of% @nL.eq_2∧type_of% @hdL.eq_1∧type_of% @hdL.eq_2∧type_of% @yb.eq_2∧type_of% @refs.refss.eq_1∧type_of% @refs.refss.eq_2∧type_of% @opv.eq_1∧type_of% @opv.eq_2∧type_of% @opv.eq_3∧type_of% @opv.eq_4∧type_of% @yl.eq_1∧type_of% @yl.eq_2∧type_of% @yl.eq_3∧type_of% @qL.eq_1∧type_of% @qL.eq_2∧type_of% @QZ.eq_1∧type_of% @me.eq_1∧type_of% @me.eq_2∧type_of% @xE.eq_1∧type_of% @xE.eq_2∧type_of% @xE.eq_3∧type_of% @sE.eq_1∧type_of% @fld.eq_1∧type_of% @uk.eq_1 :=
 ⟨@tA.eq_1,@tA.eq_2,@yL.eq_1,@yL.eq_2,@mZ.eq_1,@mZ.eq_2,@rF.eq_1,@rF.eq_2,@eH.eq_1,@eH.eq_2,@ren.rens.eq_1,@ren.rens.eq_2,@oX.eq_1,@oX.eq_2,@R9.eq_1,@xz.eq_1,@nI.eq_1,@nI.eq_2,@nH.eq_1,@nH.eq_2,@vC.eq_1,@vC.eq_2,@wF.eq_1,@wF.eq_2,@xr.eq_1,@kids.eq_1,@kids.eq_2,@oR.eq_1,@oR.eq_2,@isB.eq_1,@ym.eq_1,@yb.eq_1,@w6.eq_1,@wN.eq_1,@nL.eq_1,@nL.eq_2,@hdL.eq_1,@hdL.eq_2,@yb.eq_2,@refs.refss.eq_1,@refs.refss.eq_2,@opv.eq_1,@opv.eq_2,@opv.eq_3,@opv.eq_4,@yl.eq_1,@yl.eq_2,@yl.eq_3,@qL.eq_1,@qL.eq_2,@QZ.eq_1,@me.eq_1,@me.eq_2,@xE.eq_1,@xE.eq_2,@xE.eq_3,@sE.eq_1,@fld.eq_1,@uk.eq_1⟩
theorem GP1:type_of% @sy.eq_1∧type_of% @wB.eq_1∧type_of% @sj.eq_1∧type_of% @sj.eq_2∧type_of% @sj.eq_3∧type_of% @sj.eq_4∧type_of% @sj.eq_5∧type_of% @ghH.eq_1∧type_of% @ghH.eq_2∧type_of% @asArg.asArgs.eq_1∧type_of% @asArg.asArgs.eq_2∧type_of% @yI.snapVs.eq_1∧type_of% @yI.snapVs.eq_2∧type_of% @xX.eq_1∧type_of% @xX.eq_2∧type_of% @uS.eq_1∧type_of% @uS.eq_2∧type_of% @zc.flatVs.eq_1∧type_of% @zc.flatVs.eq_2∧type_of% @lY∧type_of% @x7.eq_1∧type_of% @vB.eq_1∧type_of% @xG.eq_1∧type_of% @lQ.eq_1∧type_of% @lQ.eq_2∧type_of% @qo.eq_1∧type_of% @wD.eq_1∧type_of% @eh.eq_1∧type_of% @vk.eq_1∧type_of% @vk.eq_2∧type_of% @w4.eq_1∧type_of% @w4.eq_2∧type_of% @ya.eq_1∧type_of% @app.eq_1∧type_of% @fc.eq_1∧type_of% @yP.gives.eq_1∧type_of% @yP.gives.eq_2∧type_of% @qn.eq_1∧type_of% @bX.eq_1∧type_of% @bX.eq_2∧type_of% @vW.eq_1∧type_of% @vW.eq_2∧type_of% @vW.eq_3∧type_of% @xt.eq_1∧type_of% @xt.eq_2∧type_of% @xt.eq_3∧type_of% @xt.eq_4∧type_of% @qq.eq_1∧type_of% @qq.eq_2∧type_of% @qq.eq_3∧type_of% @xD.eq_1 :=
 ⟨@sy.eq_1,@wB.eq_1,@sj.eq_1,@sj.eq_2,@sj.eq_3,@sj.eq_4,@sj.eq_5,@ghH.eq_1,@ghH.eq_2,@asArg.asArgs.eq_1,@asArg.asArgs.eq_2,@yI.snapVs.eq_1,@yI.snapVs.eq_2,@xX.eq_1,@xX.eq_2,@uS.eq_1,@uS.eq_2,@zc.flatVs.eq_1,@zc.flatVs.eq_2,@lY,@x7.eq_1,@vB.eq_1,@xG.eq_1,@lQ.eq_1,@lQ.eq_2,@qo.eq_1,@wD.eq_1,@eh.eq_1,@vk.eq_1,@vk.eq_2,@w4.eq_1,@w4.eq_2,@ya.eq_1,@app.eq_1,@fc.eq_1,@yP.gives.eq_1,@yP.gives.eq_2,@qn.eq_1,@bX.eq_1,@bX.eq_2,@vW.eq_1,@vW.eq_2,@vW.eq_3,@xt.eq_1,@xt.eq_2,@xt.eq_3,@xt.eq_4,@qq.eq_1,@qq.eq_2,@qq.eq_3,@xD.eq_1⟩
theorem GP2:type_of% @xD.eq_2∧type_of% @eD.eq_1∧type_of% @sP.eq_1∧type_of% @sP.eq_2∧type_of% @jV∧type_of% @dW∧type_of% @pK_1∧type_of% @pK_2∧type_of% @idx_eq∧type_of% @b9∧type_of% @List.flatMap_nil.{0,0}∧type_of% @List.flatMap_cons.{0,0}∧type_of% @List.mem_cons.{0}∧type_of% @List.not_mem_nil.{0}∧type_of% @or_false∧type_of% @false_or∧type_of% @or_true∧type_of% @true_or∧type_of% @OPL∧type_of% @Option.toList_some.{0}∧type_of% @Option.toList_none.{0}∧type_of% @VR∧type_of% @dQ∧type_of% @dR∧type_of% @gH∧type_of% @gI∧type_of% @jo∧type_of% @fE∧type_of% @aR∧type_of% @Zi∧type_of% @br∧type_of% @bu∧type_of% @bw∧type_of% @gu∧type_of% @gw∧type_of% @gx∧type_of% @YJ∧type_of% @YK∧type_of% @YL∧type_of% @Int.toNat_natCast∧type_of% @lL∧type_of% @ne_eq.{1}∧type_of% @List.isEmpty_nil.{0}∧type_of% @List.replicate_succ.{0}∧type_of% @List.replicate_zero.{0}∧type_of% @Nat.zero_mul∧type_of% @List.append_nil.{0}∧type_of% @lF :=
 ⟨@xD.eq_2,@eD.eq_1,@sP.eq_1,@sP.eq_2,@jV,@dW,@pK_1,@pK_2,@idx_eq,@b9,@List.flatMap_nil.{0,0},@List.flatMap_cons.{0,0},@List.mem_cons.{0},@List.not_mem_nil.{0},@or_false,@false_or,@or_true,@true_or,@OPL,@Option.toList_some.{0},@Option.toList_none.{0},@VR,@dQ,@dR,@gH,@gI,@jo,@fE,@aR,@Zi,@br,@bu,@bw,@gu,@gw,@gx,@YJ,@YK,@YL,@Int.toNat_natCast,@lL,@ne_eq.{1},@List.isEmpty_nil.{0},@List.replicate_succ.{0},@List.replicate_zero.{0},@Nat.zero_mul,@List.append_nil.{0},@lF⟩
theorem GP3:type_of% @lG∧type_of% @du∧type_of% @dw∧type_of% @dx∧type_of% @dz∧type_of% @Zl∧type_of% @Option.map_some.{0,0}∧type_of% @Option.map_none.{0,0}∧type_of% @Option.bind_some.{0,0}∧type_of% @Option.bind_none.{0,0}∧type_of% @Option.getD_some.{0}∧type_of% @Option.getD_none.{0}∧type_of% @List.map_cons.{0,0}∧type_of% @List.map_nil.{0,0}∧type_of% @List.all_cons.{0}∧type_of% @List.all_nil.{0}∧type_of% @List.isEmpty_cons.{0}∧type_of% @List.length_nil.{0}∧type_of% @List.length_cons.{0}∧type_of% @List.nil_append.{0}∧type_of% @List.cons_append.{0}∧type_of% @List.getElem?_cons_zero.{0}∧type_of% @List.getElem?_cons_succ.{0}∧type_of% @List.set_cons_zero.{0}∧type_of% @List.set_cons_succ.{0}∧type_of% @List.drop_zero.{0}∧type_of% @List.drop_succ_cons.{0}∧type_of% @List.take_succ_cons.{0}∧type_of% @List.take_zero.{0}∧type_of% @List.drop_nil.{0}∧type_of% @List.take_nil.{0}∧type_of% @List.toList_toArray.{0}∧type_of% @Bool.and_true∧type_of% @Bool.not_true∧type_of% @Bool.not_false∧type_of% @Bool.false_or∧type_of% @Bool.or_false∧type_of% @Bool.or_true∧type_of% @Bool.true_or∧type_of% @Bool.and_false∧type_of% @Bool.true_and∧type_of% @Bool.false_and∧type_of% @Bool.false_eq_true∧type_of% @and_true∧type_of% @true_and∧type_of% @and_self∧type_of% @Option.some.injEq.{0}∧type_of% @ite_true.{1} :=
 ⟨@lG,@du,@dw,@dx,@dz,@Zl,@Option.map_some.{0,0},@Option.map_none.{0,0},@Option.bind_some.{0,0},@Option.bind_none.{0,0},@Option.getD_some.{0},@Option.getD_none.{0},@List.map_cons.{0,0},@List.map_nil.{0,0},@List.all_cons.{0},@List.all_nil.{0},@List.isEmpty_cons.{0},@List.length_nil.{0},@List.length_cons.{0},@List.nil_append.{0},@List.cons_append.{0},@List.getElem?_cons_zero.{0},@List.getElem?_cons_succ.{0},@List.set_cons_zero.{0},@List.set_cons_succ.{0},@List.drop_zero.{0},@List.drop_succ_cons.{0},@List.take_succ_cons.{0},@List.take_zero.{0},@List.drop_nil.{0},@List.take_nil.{0},@List.toList_toArray.{0},@Bool.and_true,@Bool.not_true,@Bool.not_false,@Bool.false_or,@Bool.or_false,@Bool.or_true,@Bool.true_or,@Bool.and_false,@Bool.true_and,@Bool.false_and,@Bool.false_eq_true,@and_true,@true_and,@and_self,@Option.some.injEq.{0},@ite_true.{1}⟩
theorem GP4:type_of% @ite_false.{1}∧type_of% @decide_true∧type_of% @decide_false∧type_of% @not_true_eq_false∧type_of% @not_false_eq_true∧type_of% @beq_self_eq_true.{0}∧type_of% @Nat.zero_add∧type_of% @Nat.add_zero∧type_of% @Nat.le_refl∧type_of% @Nat.not_lt_zero∧type_of% @Option.isNone_some.{0}∧type_of% @Option.isSome_some.{0}∧type_of% @cond_true.{1}∧type_of% @cond_false.{1} :=
 ⟨@ite_false.{1},@decide_true,@decide_false,@not_true_eq_false,@not_false_eq_true,@beq_self_eq_true.{0},@Nat.zero_add,@Nat.add_zero,@Nat.le_refl,@Nat.not_lt_zero,@Option.isNone_some.{0},@Option.isSome_some.{0},@cond_true.{1},@cond_false.{1}⟩
theorem GA:type_of% @GP0∧type_of% @GP1∧type_of% @GP2∧type_of% @GP3∧type_of% @GP4 :=
 ⟨@GP0,@GP1,@GP2,@GP3,@GP4⟩
theorem BX:((!false)=true)∧(∀ b:Bool,(true&&b)=b)∧(∀ b:Bool,(b&&true)=b)∧(∀ b:Bool,(b&&b)=b)∧(∀ {α β:Type} (a b:List α) (f:α→List β),(a++b).flatMap f=a.flatMap f++b.flatMap f)∧(∀ {α β:Type} (f:α→β) (a b:List α),(a++b).map f=a.map f++b.map f) ∧
 (∀ {α:Type} (x y:α) (l:List α),(x::l).set 0 y=y::l)∧(∀ {α:Type} (x y:α) (l:List α) (n:Nat),(x::l).set (n+1) y=x::l.set n y) :=
 ⟨rfl,Bool.true_and,Bool.and_true,Bool.and_self,fun a b f=>by simp,fun f a b=>by simp,fun _ _ _=>rfl,fun _ _ _ _=>rfl⟩
theorem GX0:type_of% @wJ.eq_1∧type_of% @wJ.eq_2∧type_of% @wJ.eq_3∧type_of% @wJ.eq_4∧type_of% @wJ.eq_5∧type_of% @wJ.eq_6∧type_of% @wJ.eq_7∧type_of% @bZ.eq_1∧type_of% @bZ.eq_2∧type_of% @vU.eq_1∧type_of% @E.load.eq_1∧type_of% @E.load.eq_2∧type_of% @E.store.eq_1∧type_of% @vY.eq_1∧type_of% @vY.eq_2∧type_of% @vY.eq_3∧type_of% @vY.eq_4∧type_of% @vY.eq_5∧type_of% @vY.eq_6∧type_of% @vY.eq_7∧type_of% @vY.eq_8∧type_of% @vY.eq_9∧type_of% @vY.eq_10∧type_of% @vY.eq_11∧type_of% @qJ.eq_1∧type_of% @qJ.eq_2∧type_of% @qJ.eq_3∧type_of% @qJ.eq_4∧type_of% @qJ.eq_5∧type_of% @qJ.eq_6∧type_of% @qJ.eq_7∧type_of% @y5.eq_1∧type_of% @y5.eq_2∧type_of% @y5.eq_3∧type_of% @y5.eq_4∧type_of% @y5.eq_5∧type_of% @jS.eq_1∧type_of% @jS.eq_2∧type_of% @jS.eq_3∧type_of% @jS.eq_4∧type_of% @fnV.eq_1∧type_of% @fnV.eq_2∧type_of% @yI.eq_1∧type_of% @yI.eq_2∧type_of% @yI.eq_3 :=
 ⟨@wJ.eq_1,@wJ.eq_2,@wJ.eq_3,@wJ.eq_4,@wJ.eq_5,@wJ.eq_6,@wJ.eq_7,@bZ.eq_1,@bZ.eq_2,@vU.eq_1,@E.load.eq_1,@E.load.eq_2,@E.store.eq_1,@vY.eq_1,@vY.eq_2,@vY.eq_3,@vY.eq_4,@vY.eq_5,@vY.eq_6,@vY.eq_7,@vY.eq_8,@vY.eq_9,@vY.eq_10,@vY.eq_11,@qJ.eq_1,@qJ.eq_2,@qJ.eq_3,@qJ.eq_4,@qJ.eq_5,@qJ.eq_6,@qJ.eq_7,@y5.eq_1,@y5.eq_2,@y5.eq_3,@y5.eq_4,@y5.eq_5,@jS.eq_1,@jS.eq_2,@jS.eq_3,@jS.eq_4,@fnV.eq_1,@fnV.eq_2,@yI.eq_1,@yI.eq_2,@yI.eq_3⟩
theorem GX1:type_of% @yI.eq_4∧type_of% @yI.eq_5∧type_of% @yI.eq_6∧type_of% @yI.eq_7∧type_of% @sL.eq_1∧type_of% @sL.eq_2∧type_of% @sL.eq_3∧type_of% @sM.eq_1∧type_of% @sM.eq_2∧type_of% @sM.eq_3∧type_of% @vc.eq_1∧type_of% @vc.eq_2∧type_of% @vc.eq_3∧type_of% @vc.eq_4∧type_of% @sN.eq_1∧type_of% @sN.eq_2∧type_of% @ud.eq_1∧type_of% @ud.eq_2∧type_of% @Xa.eq_1∧type_of% @ti.eq_1∧type_of% @ti.eq_2∧type_of% @qO.eq_1∧type_of% @qO.eq_2∧type_of% @qO.eq_3∧type_of% @vz.eq_1∧type_of% @vz.eq_2∧type_of% @vz.eq_3∧type_of% @vz.eq_4∧type_of% @R8.eq_1∧type_of% @Xq.eq_1∧type_of% @mf.eq_1∧type_of% @mf.eq_2∧type_of% @vh.eq_1∧type_of% @vh.eq_2∧type_of% @vh.eq_3∧type_of% @oW.eq_1∧type_of% @oW.eq_2∧type_of% @yP.eq_1∧type_of% @yP.eq_2∧type_of% @yP.eq_3∧type_of% @yP.eq_4∧type_of% @yP.eq_5∧type_of% @yP.eq_6∧type_of% @Rb.eq_1∧type_of% @X9.eq_1 :=
 ⟨@yI.eq_4,@yI.eq_5,@yI.eq_6,@yI.eq_7,@sL.eq_1,@sL.eq_2,@sL.eq_3,@sM.eq_1,@sM.eq_2,@sM.eq_3,@vc.eq_1,@vc.eq_2,@vc.eq_3,@vc.eq_4,@sN.eq_1,@sN.eq_2,@ud.eq_1,@ud.eq_2,@Xa.eq_1,@ti.eq_1,@ti.eq_2,@qO.eq_1,@qO.eq_2,@qO.eq_3,@vz.eq_1,@vz.eq_2,@vz.eq_3,@vz.eq_4,@R8.eq_1,@Xq.eq_1,@mf.eq_1,@mf.eq_2,@vh.eq_1,@vh.eq_2,@vh.eq_3,@oW.eq_1,@oW.eq_2,@yP.eq_1,@yP.eq_2,@yP.eq_3,@yP.eq_4,@yP.eq_5,@yP.eq_6,@Rb.eq_1,@X9.eq_1⟩
theorem GX:type_of% @GX0∧type_of% @GX1:=⟨@GX0,@GX1⟩
theorem LL:type_of% @List.length_cons.{0}∧type_of% @List.length_append.{0}∧type_of% @List.length_nil.{0}∧type_of% @List.length_map.{0,0}:=⟨@List.length_cons.{0},@List.length_append.{0},@List.length_nil.{0},@List.length_map.{0,0}⟩
theorem GZ:type_of% @Int.cast_ofNat_Int∧type_of% @tJ∧type_of% @b8∧type_of% @b7∧type_of% @Option.isSome_none.{0}:=⟨@Int.cast_ofNat_Int,@tJ,@b8,@b7,@Option.isSome_none.{0}⟩
end Go.Proofs.YtefkoljdebekdaaGreatDoor.E
/- Plain words about texts: digits, quotes, joins. Conditions: those of each lemma. -/
namespace Go.Proofs.YtefkoljdebekdaaGreatDoor
open Go.Proofs.Tryz
abbrev Str:=List UInt8
abbrev B2 (a lo hi:Int):Bool:=decide (lo≤a)&&decide (a≤hi)
abbrev nb (b:UInt8):Int:=(b.toNat:Int)
theorem UW (b:UInt8):(b.toNat:Int)<256∧(0:Int)≤(b.toNat:Int):=by have:=b.toNat_lt;omega
def x8 (b:UInt8):Str→List Str
 | []=>[[]]
 | x::s=>if x=b then []::x8 b s else match x8 b s with
  | p::r=>(x::p)::r
  | []=>[[x]]
end Go.Proofs.YtefkoljdebekdaaGreatDoor
/- Lists of texts, trees: as the evaluator sees them; their sizes. Conditions: those of each lemma. -/
namespace Go.Proofs.YtefkoljdebekdaaGreatDoor
open Go.Proofs.Tryz
open E
def strs (ks:List (List UInt8)):List (List T):=ks.map fun s=>[.str s]
def yc:List (List UInt8)→Nat
 | []=>0
 | s::ks=>s.length+yc ks
theorem zo (ks:List (List UInt8)):(strs ks).length=ks.length:=by simp[strs]
theorem w8 (ks:List (List UInt8))(i:Nat)(h:i<ks.length):(strs ks)[i]? = some [.str ks[i]]:=by simp[strs,h]
inductive Tr where
 | mk (k n:Int) (s:List UInt8) (ks:List (List UInt8)) (cs:List Tr)
mutual
def Tr.enc:Tr→List T
 | .mk k n s ks cs=>[.int .i64 k,.int .i64 n,.str s,.list 1 (strs ks),.list 5 (Tr.zq cs)]
def Tr.zq:List Tr→List (List T)
 | []=>[]
 | c::cs=>Tr.enc c::Tr.zq cs
end
mutual
def Tr.y0:Tr→Nat
 | .mk _ _ s ks cs=>s.length+ks.length+yc ks+cs.length+Tr.yp cs
def Tr.yp:List Tr→Nat
 | []=>0
 | c::cs=>Tr.y0 c+Tr.yp cs
end
mutual
def Tr.ok:Tr→Prop
 | .mk _ _ s ks cs=>s.length≤9223372036854775807∧ks.length≤9223372036854775807∧(∀ x∈ks,x.length≤9223372036854775807)∧cs.length≤9223372036854775807∧Tr.oks cs
def Tr.oks:List Tr→Prop
 | []=>True
 | c::cs=>Tr.ok c∧Tr.oks cs
end
theorem Tr.lu:∀ cs:List Tr,Tr.zq cs=cs.map Tr.enc
 | []=>rfl
 | c::cs=>by simp[Tr.zq,Tr.lu cs]
theorem Tr.zz (cs:List Tr):(Tr.zq cs).length=cs.length:=by simp[Tr.lu]
theorem Tr.vn (cs:List Tr)(i:Nat)(h:i<cs.length):(Tr.zq cs)[i]? = some cs[i].enc:=by simp[Tr.lu,h]
theorem Tr.yK:∀ {cs:List Tr} {c:Tr},c∈cs→c.y0≤Tr.yp cs
 | c'::cs,c,h=>by
  simp only[Tr.yp];rcases List.mem_cons.1 h with rfl|h
  · omega
  · have:=Tr.yK h;omega
end Go.Proofs.YtefkoljdebekdaaGreatDoor
/- The shelf's contracts at this program, laid by the kit's own tool. Conditions: none. -/
namespace Go.Proofs
open Go.Proofs.Tryz
open Go.Shelf
def Tryz.mA:Go.Shelf.Ren:=⟨fun|156=>191|165=>230|166=>231|169=>232|240=>278|241=>279|276=>303|277=>304|n=>n,fun|31=>24|9=>9|3=>3|4=>4|0=>0|20=>20|72=>189|76=>164|70=>187|37=>22|75=>163|127=>227|164=>246|5=>5|80=>191|n=>n,fun|n=>n⟩
theorem Tryz.Y3:Go.Proofs.Lays.n156 prog Tryz.mA:={
 mixed:=by kernel_rfl
 f156:=Tryz.func191.trans (congrArg some (by kernel_rfl))
 f165:=Tryz.func230.trans (congrArg some (by kernel_rfl))
 f166:=Tryz.func231.trans (congrArg some (by kernel_rfl))
 f169:=Tryz.func232.trans (congrArg some (by kernel_rfl))
 f240:=Tryz.func278.trans (congrArg some (by kernel_rfl))
 f241:=Tryz.func279.trans (congrArg some (by kernel_rfl))
 f276:=Tryz.func303.trans (congrArg some (by kernel_rfl))
 f277:=Tryz.func304.trans (congrArg some (by kernel_rfl))
 t0:=Tryz.underlying0
 a0:=Tryz.isAgg0
 z0:=Tryz.sizeOf0
 v0:=Tryz.zeroValue0
 t3:=Tryz.underlying3
 a3:=Tryz.isAgg3
 z3:=Tryz.sizeOf3
 v3:=Tryz.zeroValue3
 t4:=Tryz.underlying4
 a4:=Tryz.isAgg4
 z4:=Tryz.sizeOf4
 v4:=Tryz.zeroValue4
 t9:=Tryz.underlying9
 a9:=Tryz.isAgg9
 z9:=Tryz.sizeOf9
 v9:=Tryz.zeroValue9
 t20:=Tryz.underlying20
 a20:=Tryz.isAgg20
 z20:=Tryz.sizeOf20
 v20:=Tryz.zeroValue20
 t31:=Tryz.underlying24
 a31:=Tryz.isAgg24
 z31:=Tryz.sizeOf24
 v31:=Tryz.zeroValue24
 t37:=Tryz.underlying22
 a37:=Tryz.isAgg22
 z37:=Tryz.sizeOf22
 v37:=Tryz.zeroValue22
 t70:=Tryz.underlying187
 a70:=Tryz.isAgg187
 z70:=Tryz.sizeOf187
 v70:=Tryz.zeroValue187
 t72:=Tryz.underlying189
 a72:=Tryz.isAgg189
 z72:=Tryz.sizeOf189
 v72:=Tryz.zeroValue189
 t75:=Tryz.underlying163
 a75:=Tryz.isAgg163
 z75:=Tryz.sizeOf163
 v75:=Tryz.zeroValue163
 t76:=Tryz.underlying164
 a76:=Tryz.isAgg164
 z76:=Tryz.sizeOf164
 v76:=Tryz.zeroValue164
 t127:=Tryz.underlying227
 a127:=Tryz.isAgg227
 z127:=Tryz.sizeOf227
 v127:=Tryz.zeroValue227
 t164:=Tryz.underlying246
 a164:=Tryz.isAgg246
 z164:=Tryz.sizeOf246
 v164:=Tryz.zeroValue246 }
theorem Tryz.uW:Builder.Extra prog Tryz.mA:={
 sizeBuilder:=by kernel_rfl
 liesBuilder:=by kernel_rfl
 t5:=Tryz.underlying5
 a5:=Tryz.isAgg5
 z5:=Tryz.sizeOf5
 v5:=Tryz.zeroValue5
 infoByte:=by kernel_rfl
 cellsByte:=by kernel_rfl
 sizeByte:=by kernel_rfl
 neB5:=by decide }
def Tryz.eV:Go.Shelf.Ren:=⟨fun|106=>194|213=>237|265=>282|n=>n,fun|9=>9|3=>3|n=>n,fun|n=>n⟩
theorem Tryz.S3:Go.Proofs.Lays.n106 prog Tryz.eV:={
 mixed:=by kernel_rfl
 f106:=Tryz.func194.trans (congrArg some (by kernel_rfl))
 f213:=Tryz.func237.trans (congrArg some (by kernel_rfl))
 f265:=Tryz.func282.trans (congrArg some (by kernel_rfl))
 t3:=Tryz.underlying3
 a3:=Tryz.isAgg3
 z3:=Tryz.sizeOf3
 v3:=Tryz.zeroValue3
 t9:=Tryz.underlying9
 a9:=Tryz.isAgg9
 z9:=Tryz.sizeOf9
 v9:=Tryz.zeroValue9 }
def Tryz.gU:Go.Shelf.Ren:=⟨fun|171=>227|243=>277|246=>302|283=>310|284=>311|285=>312|286=>313|129=>253|317=>316|318=>317|319=>318|320=>319|337=>320|338=>321|n=>n,fun|3=>3|9=>9|2=>2|4=>4|171=>262|0=>0|53=>212|37=>22|5=>5|173=>264|212=>268|51=>210|20=>20|213=>269|46=>175|232=>271|233=>272|n=>n,fun|17=>5|18=>6|19=>7|n=>n⟩
theorem Tryz.WV:Go.Proofs.LaysM.n171 prog Tryz.gU:={
 mixed:=by kernel_rfl
 f129:=Tryz.func253.trans (congrArg some (by kernel_rfl))
 f171:=Tryz.func227.trans (congrArg some (by kernel_rfl))
 f243:=Tryz.func277.trans (congrArg some (by kernel_rfl))
 f246:=Tryz.func302.trans (congrArg some (by kernel_rfl))
 f283:=Tryz.func310.trans (congrArg some (by kernel_rfl))
 f284:=Tryz.func311.trans (congrArg some (by kernel_rfl))
 f285:=Tryz.func312.trans (congrArg some (by kernel_rfl))
 f286:=Tryz.func313.trans (congrArg some (by kernel_rfl))
 f317:=Tryz.func316.trans (congrArg some (by kernel_rfl))
 f318:=Tryz.func317.trans (congrArg some (by kernel_rfl))
 f319:=Tryz.func318.trans (congrArg some (by kernel_rfl))
 f320:=Tryz.func319.trans (congrArg some (by kernel_rfl))
 f337:=Tryz.func320.trans (congrArg some (by kernel_rfl))
 f338:=Tryz.func321.trans (congrArg some (by kernel_rfl))
 t0:=Tryz.underlying0
 a0:=Tryz.isAgg0
 z0:=Tryz.sizeOf0
 v0:=Tryz.zeroValue0
 t2:=Tryz.underlying2
 a2:=Tryz.isAgg2
 z2:=Tryz.sizeOf2
 v2:=Tryz.zeroValue2
 t3:=Tryz.underlying3
 a3:=Tryz.isAgg3
 z3:=Tryz.sizeOf3
 v3:=Tryz.zeroValue3
 t4:=Tryz.underlying4
 a4:=Tryz.isAgg4
 z4:=Tryz.sizeOf4
 v4:=Tryz.zeroValue4
 t5:=Tryz.underlying5
 a5:=Tryz.isAgg5
 z5:=Tryz.sizeOf5
 v5:=Tryz.zeroValue5
 t9:=Tryz.underlying9
 a9:=Tryz.isAgg9
 z9:=Tryz.sizeOf9
 v9:=Tryz.zeroValue9
 t20:=Tryz.underlying20
 a20:=Tryz.isAgg20
 z20:=Tryz.sizeOf20
 v20:=Tryz.zeroValue20
 t37:=Tryz.underlying22
 a37:=Tryz.isAgg22
 z37:=Tryz.sizeOf22
 v37:=Tryz.zeroValue22
 t46:=Tryz.underlying175
 a46:=Tryz.isAgg175
 z46:=Tryz.sizeOf175
 v46:=Tryz.zeroValue175
 t51:=Tryz.underlying210
 a51:=Tryz.isAgg210
 z51:=Tryz.sizeOf210
 v51:=Tryz.zeroValue210
 t53:=Tryz.underlying212
 a53:=Tryz.isAgg212
 z53:=Tryz.sizeOf212
 v53:=Tryz.zeroValue212
 t171:=Tryz.underlying262
 a171:=Tryz.isAgg262
 z171:=Tryz.sizeOf262
 v171:=Tryz.zeroValue262
 t173:=Tryz.underlying264
 a173:=Tryz.isAgg264
 z173:=Tryz.sizeOf264
 v173:=Tryz.zeroValue264
 t212:=Tryz.underlying268
 a212:=Tryz.isAgg268
 z212:=Tryz.sizeOf268
 v212:=Tryz.zeroValue268
 t213:=Tryz.underlying269
 a213:=Tryz.isAgg269
 z213:=Tryz.sizeOf269
 t232:=Tryz.underlying271
 a232:=Tryz.isAgg271
 z232:=Tryz.sizeOf271
 v232:=Tryz.zeroValue271
 t233:=Tryz.underlying272
 a233:=Tryz.isAgg272
 z233:=Tryz.sizeOf272
 v233:=Tryz.zeroValue272
 g17:=by kernel_rfl
 g18:=by kernel_rfl
 g19:=by kernel_rfl
 i0:=by kernel_rfl
 i2:=by kernel_rfl
 i3:=by kernel_rfl
 i4:=by kernel_rfl
 i5:=by kernel_rfl
 i9:=by kernel_rfl
 i20:=by kernel_rfl
 i37:=by kernel_rfl
 i46:=by kernel_rfl
 i51:=by kernel_rfl
 i53:=by kernel_rfl
 i171:=by kernel_rfl
 i173:=by kernel_rfl
 i212:=by kernel_rfl
 i232:=by kernel_rfl
 i233:=by kernel_rfl
 m17:=by kernel_rfl
 m18:=by kernel_rfl
 m19:=by kernel_rfl }
def Tryz.gV:Go.Shelf.Ren:=⟨fun|172=>188|244=>225|245=>226|247=>272|279=>273|280=>274|281=>275|282=>276|287=>299|316=>300|171=>227|205=>301|321=>308|322=>309|243=>277|246=>302|283=>310|284=>311|285=>312|286=>313|129=>253|317=>316|318=>317|319=>318|320=>319|337=>320|338=>321|n=>n,fun|9=>9|3=>3|75=>163|76=>164|4=>4|5=>5|167=>221|37=>22|0=>0|85=>222|2=>2|168=>224|53=>212|175=>240|46=>175|210=>243|127=>227|145=>261|143=>259|21=>21|171=>262|173=>264|212=>268|51=>210|20=>20|213=>269|232=>271|233=>272|80=>191|n=>n,fun|15=>1|16=>2|17=>5|18=>6|19=>7|n=>n⟩
theorem Tryz.j7:Go.Proofs.LaysC.n172 prog Tryz.gV:={
 mixed:=by kernel_rfl
 f129:=Tryz.func253.trans (congrArg some (by kernel_rfl))
 f171:=Tryz.func227.trans (congrArg some (by kernel_rfl))
 f172:=Tryz.func188.trans (congrArg some (by kernel_rfl))
 f205:=Tryz.func301.trans (congrArg some (by kernel_rfl))
 f243:=Tryz.func277.trans (congrArg some (by kernel_rfl))
 f244:=Tryz.func225.trans (congrArg some (by kernel_rfl))
 f245:=Tryz.func226.trans (congrArg some (by kernel_rfl))
 f246:=Tryz.func302.trans (congrArg some (by kernel_rfl))
 f247:=Tryz.func272.trans (congrArg some (by kernel_rfl))
 f279:=Tryz.func273.trans (congrArg some (by kernel_rfl))
 f280:=Tryz.func274.trans (congrArg some (by kernel_rfl))
 f281:=Tryz.func275.trans (congrArg some (by kernel_rfl))
 f282:=Tryz.func276.trans (congrArg some (by kernel_rfl))
 f283:=Tryz.func310.trans (congrArg some (by kernel_rfl))
 f284:=Tryz.func311.trans (congrArg some (by kernel_rfl))
 f285:=Tryz.func312.trans (congrArg some (by kernel_rfl))
 f286:=Tryz.func313.trans (congrArg some (by kernel_rfl))
 f287:=Tryz.func299.trans (congrArg some (by kernel_rfl))
 f316:=Tryz.func300.trans (congrArg some (by kernel_rfl))
 f317:=Tryz.func316.trans (congrArg some (by kernel_rfl))
 f318:=Tryz.func317.trans (congrArg some (by kernel_rfl))
 f319:=Tryz.func318.trans (congrArg some (by kernel_rfl))
 f320:=Tryz.func319.trans (congrArg some (by kernel_rfl))
 f321:=Tryz.func308.trans (congrArg some (by kernel_rfl))
 f322:=Tryz.func309.trans (congrArg some (by kernel_rfl))
 f337:=Tryz.func320.trans (congrArg some (by kernel_rfl))
 f338:=Tryz.func321.trans (congrArg some (by kernel_rfl))
 t0:=Tryz.underlying0
 a0:=Tryz.isAgg0
 z0:=Tryz.sizeOf0
 v0:=Tryz.zeroValue0
 t2:=Tryz.underlying2
 a2:=Tryz.isAgg2
 z2:=Tryz.sizeOf2
 v2:=Tryz.zeroValue2
 t3:=Tryz.underlying3
 a3:=Tryz.isAgg3
 z3:=Tryz.sizeOf3
 v3:=Tryz.zeroValue3
 t4:=Tryz.underlying4
 a4:=Tryz.isAgg4
 z4:=Tryz.sizeOf4
 v4:=Tryz.zeroValue4
 t5:=Tryz.underlying5
 a5:=Tryz.isAgg5
 z5:=Tryz.sizeOf5
 v5:=Tryz.zeroValue5
 t9:=Tryz.underlying9
 a9:=Tryz.isAgg9
 z9:=Tryz.sizeOf9
 v9:=Tryz.zeroValue9
 t20:=Tryz.underlying20
 a20:=Tryz.isAgg20
 z20:=Tryz.sizeOf20
 v20:=Tryz.zeroValue20
 t21:=Tryz.underlying21
 a21:=Tryz.isAgg21
 z21:=Tryz.sizeOf21
 v21:=Tryz.zeroValue21
 t37:=Tryz.underlying22
 a37:=Tryz.isAgg22
 z37:=Tryz.sizeOf22
 v37:=Tryz.zeroValue22
 t46:=Tryz.underlying175
 a46:=Tryz.isAgg175
 z46:=Tryz.sizeOf175
 v46:=Tryz.zeroValue175
 t51:=Tryz.underlying210
 a51:=Tryz.isAgg210
 z51:=Tryz.sizeOf210
 v51:=Tryz.zeroValue210
 t53:=Tryz.underlying212
 a53:=Tryz.isAgg212
 z53:=Tryz.sizeOf212
 v53:=Tryz.zeroValue212
 t75:=Tryz.underlying163
 a75:=Tryz.isAgg163
 z75:=Tryz.sizeOf163
 v75:=Tryz.zeroValue163
 t76:=Tryz.underlying164
 a76:=Tryz.isAgg164
 z76:=Tryz.sizeOf164
 v76:=Tryz.zeroValue164
 t85:=Tryz.underlying222
 a85:=Tryz.isAgg222
 z85:=Tryz.sizeOf222
 v85:=Tryz.zeroValue222
 t127:=Tryz.underlying227
 a127:=Tryz.isAgg227
 z127:=Tryz.sizeOf227
 v127:=Tryz.zeroValue227
 t143:=Tryz.underlying259
 a143:=Tryz.isAgg259
 z143:=Tryz.sizeOf259
 v143:=Tryz.zeroValue259
 t145:=Tryz.underlying261
 a145:=Tryz.isAgg261
 z145:=Tryz.sizeOf261
 v145:=Tryz.zeroValue261
 t167:=Tryz.underlying221
 a167:=Tryz.isAgg221
 z167:=Tryz.sizeOf221
 v167:=Tryz.zeroValue221
 t168:=Tryz.underlying224
 a168:=Tryz.isAgg224
 z168:=Tryz.sizeOf224
 v168:=Tryz.zeroValue224
 t171:=Tryz.underlying262
 a171:=Tryz.isAgg262
 z171:=Tryz.sizeOf262
 v171:=Tryz.zeroValue262
 t173:=Tryz.underlying264
 a173:=Tryz.isAgg264
 z173:=Tryz.sizeOf264
 v173:=Tryz.zeroValue264
 t175:=Tryz.underlying240
 a175:=Tryz.isAgg240
 z175:=Tryz.sizeOf240
 v175:=Tryz.zeroValue240
 t210:=Tryz.underlying243
 a210:=Tryz.isAgg243
 z210:=Tryz.sizeOf243
 v210:=Tryz.zeroValue243
 t212:=Tryz.underlying268
 a212:=Tryz.isAgg268
 z212:=Tryz.sizeOf268
 v212:=Tryz.zeroValue268
 t213:=Tryz.underlying269
 a213:=Tryz.isAgg269
 z213:=Tryz.sizeOf269
 t232:=Tryz.underlying271
 a232:=Tryz.isAgg271
 z232:=Tryz.sizeOf271
 v232:=Tryz.zeroValue271
 t233:=Tryz.underlying272
 a233:=Tryz.isAgg272
 z233:=Tryz.sizeOf272
 v233:=Tryz.zeroValue272
 g15:=by kernel_rfl
 g16:=by kernel_rfl
 g17:=by kernel_rfl
 g18:=by kernel_rfl
 g19:=by kernel_rfl
 t80:=Tryz.underlying191
 a80:=Tryz.isAgg191
 z80:=Tryz.sizeOf191
 v80:=Tryz.zeroValue191
 i0:=by kernel_rfl
 i2:=by kernel_rfl
 i3:=by kernel_rfl
 i4:=by kernel_rfl
 i5:=by kernel_rfl
 i9:=by kernel_rfl
 i20:=by kernel_rfl
 i21:=by kernel_rfl
 i37:=by kernel_rfl
 i46:=by kernel_rfl
 i51:=by kernel_rfl
 i53:=by kernel_rfl
 i75:=by kernel_rfl
 i76:=by kernel_rfl
 i80:=by kernel_rfl
 i85:=by kernel_rfl
 i127:=by kernel_rfl
 i143:=by kernel_rfl
 i145:=by kernel_rfl
 i167:=by kernel_rfl
 i168:=by kernel_rfl
 i171:=by kernel_rfl
 i173:=by kernel_rfl
 i175:=by kernel_rfl
 i210:=by kernel_rfl
 i212:=by kernel_rfl
 i232:=by kernel_rfl
 i233:=by kernel_rfl
 m15:=by kernel_rfl
 m16:=by kernel_rfl
 m17:=by kernel_rfl
 m18:=by kernel_rfl
 m19:=by kernel_rfl
 c0:=by kernel_rfl
 c2:=by kernel_rfl
 c3:=by kernel_rfl
 c4:=by kernel_rfl
 c5:=by kernel_rfl
 c9:=by kernel_rfl
 c20:=by kernel_rfl
 c21:=by kernel_rfl
 c37:=by kernel_rfl
 c46:=by kernel_rfl
 c51:=by kernel_rfl
 c53:=by kernel_rfl
 c75:=by kernel_rfl
 c76:=by kernel_rfl
 c80:=by kernel_rfl
 c85:=by kernel_rfl
 c127:=by kernel_rfl
 c143:=by kernel_rfl
 c145:=by kernel_rfl
 c167:=by kernel_rfl
 c168:=by kernel_rfl
 c171:=by kernel_rfl
 c173:=by kernel_rfl
 c175:=by kernel_rfl
 c210:=by kernel_rfl
 c212:=by kernel_rfl
 c213:=by kernel_rfl
 c232:=by kernel_rfl
 c233:=by kernel_rfl }
def Tryz.sd:Go.Shelf.Ren:=⟨fun|145=>125|220=>186|219=>221|217=>265|225=>266|224=>267|267=>268|266=>296|314=>297|n=>n,fun|9=>9|4=>4|59=>122|3=>3|5=>5|46=>175|146=>229|51=>210|n=>n,fun|1=>0|n=>n⟩
theorem Tryz.cH:Go.Proofs.LaysM.n145 prog Tryz.sd:={
 mixed:=by kernel_rfl
 f145:=Tryz.func125.trans (congrArg some (by kernel_rfl))
 f217:=Tryz.func265.trans (congrArg some (by kernel_rfl))
 f219:=Tryz.func221.trans (congrArg some (by kernel_rfl))
 f220:=Tryz.func186.trans (congrArg some (by kernel_rfl))
 f224:=Tryz.func267.trans (congrArg some (by kernel_rfl))
 f225:=Tryz.func266.trans (congrArg some (by kernel_rfl))
 f266:=Tryz.func296.trans (congrArg some (by kernel_rfl))
 f267:=Tryz.func268.trans (congrArg some (by kernel_rfl))
 f314:=Tryz.func297.trans (congrArg some (by kernel_rfl))
 t3:=Tryz.underlying3
 a3:=Tryz.isAgg3
 z3:=Tryz.sizeOf3
 v3:=Tryz.zeroValue3
 t4:=Tryz.underlying4
 a4:=Tryz.isAgg4
 z4:=Tryz.sizeOf4
 v4:=Tryz.zeroValue4
 t5:=Tryz.underlying5
 a5:=Tryz.isAgg5
 z5:=Tryz.sizeOf5
 v5:=Tryz.zeroValue5
 t9:=Tryz.underlying9
 a9:=Tryz.isAgg9
 z9:=Tryz.sizeOf9
 v9:=Tryz.zeroValue9
 t46:=Tryz.underlying175
 a46:=Tryz.isAgg175
 z46:=Tryz.sizeOf175
 v46:=Tryz.zeroValue175
 t51:=Tryz.underlying210
 a51:=Tryz.isAgg210
 z51:=Tryz.sizeOf210
 v51:=Tryz.zeroValue210
 t59:=Tryz.underlying122
 a59:=Tryz.isAgg122
 z59:=Tryz.sizeOf122
 v59:=Tryz.zeroValue122
 t146:=Tryz.underlying229
 a146:=Tryz.isAgg229
 z146:=Tryz.sizeOf229
 v146:=Tryz.zeroValue229
 g1:=by kernel_rfl
 i3:=by kernel_rfl
 i4:=by kernel_rfl
 i5:=by kernel_rfl
 i9:=by kernel_rfl
 i46:=by kernel_rfl
 i51:=by kernel_rfl
 i59:=by kernel_rfl
 i146:=by kernel_rfl
 m1:=by kernel_rfl
 s1_3:=fun w h=>Go.Proofs.cell_of_shapedOpen_int (zero := #[.int .i64 0]) (t:=3) h (of_decide_eq_true (by kernel_rfl)) (by kernel_rfl) rfl (by kernel_rfl) (by kernel_rfl) Tryz.underlying3 }
def Tryz.eU:Go.Shelf.Ren:=⟨fun|190=>163|125=>207|258=>206|128=>252|129=>253|302=>243|303=>244|304=>245|305=>246|306=>247|307=>248|308=>249|309=>250|310=>251|333=>287|329=>288|330=>289|334=>290|335=>291|336=>292|344=>306|n=>n,fun|31=>24|9=>9|3=>3|46=>175|0=>0|51=>210|53=>212|4=>4|183=>203|182=>202|131=>207|5=>5|218=>232|222=>236|228=>250|229=>251|n=>n,fun|n=>n⟩
theorem Tryz.Y2:Go.Proofs.Lays.n190 prog Tryz.eU:={
 mixed:=by kernel_rfl
 f125:=Tryz.func207.trans (congrArg some (by kernel_rfl))
 f128:=Tryz.func252.trans (congrArg some (by kernel_rfl))
 f129:=Tryz.func253.trans (congrArg some (by kernel_rfl))
 f190:=Tryz.func163.trans (congrArg some (by kernel_rfl))
 f258:=Tryz.func206.trans (congrArg some (by kernel_rfl))
 f302:=Tryz.func243.trans (congrArg some (by kernel_rfl))
 f303:=Tryz.func244.trans (congrArg some (by kernel_rfl))
 f304:=Tryz.func245.trans (congrArg some (by kernel_rfl))
 f305:=Tryz.func246.trans (congrArg some (by kernel_rfl))
 f306:=Tryz.func247.trans (congrArg some (by kernel_rfl))
 f307:=Tryz.func248.trans (congrArg some (by kernel_rfl))
 f308:=Tryz.func249.trans (congrArg some (by kernel_rfl))
 f309:=Tryz.func250.trans (congrArg some (by kernel_rfl))
 f310:=Tryz.func251.trans (congrArg some (by kernel_rfl))
 f329:=Tryz.func288.trans (congrArg some (by kernel_rfl))
 f330:=Tryz.func289.trans (congrArg some (by kernel_rfl))
 f333:=Tryz.func287.trans (congrArg some (by kernel_rfl))
 f334:=Tryz.func290.trans (congrArg some (by kernel_rfl))
 f335:=Tryz.func291.trans (congrArg some (by kernel_rfl))
 f336:=Tryz.func292.trans (congrArg some (by kernel_rfl))
 f344:=Tryz.func306.trans (congrArg some (by kernel_rfl))
 t0:=Tryz.underlying0
 a0:=Tryz.isAgg0
 z0:=Tryz.sizeOf0
 v0:=Tryz.zeroValue0
 t3:=Tryz.underlying3
 a3:=Tryz.isAgg3
 z3:=Tryz.sizeOf3
 v3:=Tryz.zeroValue3
 t4:=Tryz.underlying4
 a4:=Tryz.isAgg4
 z4:=Tryz.sizeOf4
 v4:=Tryz.zeroValue4
 t5:=Tryz.underlying5
 a5:=Tryz.isAgg5
 z5:=Tryz.sizeOf5
 v5:=Tryz.zeroValue5
 t9:=Tryz.underlying9
 a9:=Tryz.isAgg9
 z9:=Tryz.sizeOf9
 v9:=Tryz.zeroValue9
 t31:=Tryz.underlying24
 a31:=Tryz.isAgg24
 z31:=Tryz.sizeOf24
 v31:=Tryz.zeroValue24
 t46:=Tryz.underlying175
 a46:=Tryz.isAgg175
 z46:=Tryz.sizeOf175
 v46:=Tryz.zeroValue175
 t51:=Tryz.underlying210
 a51:=Tryz.isAgg210
 z51:=Tryz.sizeOf210
 v51:=Tryz.zeroValue210
 t53:=Tryz.underlying212
 a53:=Tryz.isAgg212
 z53:=Tryz.sizeOf212
 v53:=Tryz.zeroValue212
 t131:=Tryz.underlying207
 a131:=Tryz.isAgg207
 z131:=Tryz.sizeOf207
 v131:=Tryz.zeroValue207
 t182:=Tryz.underlying202
 a182:=Tryz.isAgg202
 z182:=Tryz.sizeOf202
 v182:=Tryz.zeroValue202
 t183:=Tryz.underlying203
 a183:=Tryz.isAgg203
 z183:=Tryz.sizeOf203
 v183:=Tryz.zeroValue203
 t218:=Tryz.underlying232
 a218:=Tryz.isAgg232
 z218:=Tryz.sizeOf232
 v218:=Tryz.zeroValue232
 t222:=Tryz.underlying236
 a222:=Tryz.isAgg236
 z222:=Tryz.sizeOf236
 v222:=Tryz.zeroValue236
 t228:=Tryz.underlying250
 a228:=Tryz.isAgg250
 z228:=Tryz.sizeOf250
 v228:=Tryz.zeroValue250
 t229:=Tryz.underlying251
 a229:=Tryz.isAgg251
 z229:=Tryz.sizeOf251
 v229:=Tryz.zeroValue251 }
def Tryz.sb:Go.Shelf.Ren:=⟨fun|146=>126|221=>187|268=>222|138=>223|143=>224|195=>269|197=>270|218=>271|219=>221|260=>298|217=>265|225=>266|224=>267|267=>268|266=>296|314=>297|n=>n,fun|9=>9|31=>24|3=>3|4=>4|0=>0|105=>219|21=>21|5=>5|46=>175|119=>254|139=>257|138=>256|146=>229|51=>210|n=>n,fun|1=>0|3=>3|4=>4|n=>n⟩
theorem Tryz.cF:Go.Proofs.LaysM.n146 prog Tryz.sb:={
 mixed:=by kernel_rfl
 f138:=Tryz.func223.trans (congrArg some (by kernel_rfl))
 f143:=Tryz.func224.trans (congrArg some (by kernel_rfl))
 f146:=Tryz.func126.trans (congrArg some (by kernel_rfl))
 f195:=Tryz.func269.trans (congrArg some (by kernel_rfl))
 f197:=Tryz.func270.trans (congrArg some (by kernel_rfl))
 f217:=Tryz.func265.trans (congrArg some (by kernel_rfl))
 f218:=Tryz.func271.trans (congrArg some (by kernel_rfl))
 f219:=Tryz.func221.trans (congrArg some (by kernel_rfl))
 f221:=Tryz.func187.trans (congrArg some (by kernel_rfl))
 f224:=Tryz.func267.trans (congrArg some (by kernel_rfl))
 f225:=Tryz.func266.trans (congrArg some (by kernel_rfl))
 f260:=Tryz.func298.trans (congrArg some (by kernel_rfl))
 f266:=Tryz.func296.trans (congrArg some (by kernel_rfl))
 f267:=Tryz.func268.trans (congrArg some (by kernel_rfl))
 f268:=Tryz.func222.trans (congrArg some (by kernel_rfl))
 f314:=Tryz.func297.trans (congrArg some (by kernel_rfl))
 t0:=Tryz.underlying0
 a0:=Tryz.isAgg0
 z0:=Tryz.sizeOf0
 v0:=Tryz.zeroValue0
 t3:=Tryz.underlying3
 a3:=Tryz.isAgg3
 z3:=Tryz.sizeOf3
 v3:=Tryz.zeroValue3
 t4:=Tryz.underlying4
 a4:=Tryz.isAgg4
 z4:=Tryz.sizeOf4
 v4:=Tryz.zeroValue4
 t5:=Tryz.underlying5
 a5:=Tryz.isAgg5
 z5:=Tryz.sizeOf5
 v5:=Tryz.zeroValue5
 t9:=Tryz.underlying9
 a9:=Tryz.isAgg9
 z9:=Tryz.sizeOf9
 v9:=Tryz.zeroValue9
 t21:=Tryz.underlying21
 a21:=Tryz.isAgg21
 z21:=Tryz.sizeOf21
 v21:=Tryz.zeroValue21
 t31:=Tryz.underlying24
 a31:=Tryz.isAgg24
 z31:=Tryz.sizeOf24
 v31:=Tryz.zeroValue24
 t46:=Tryz.underlying175
 a46:=Tryz.isAgg175
 z46:=Tryz.sizeOf175
 v46:=Tryz.zeroValue175
 t51:=Tryz.underlying210
 a51:=Tryz.isAgg210
 z51:=Tryz.sizeOf210
 v51:=Tryz.zeroValue210
 t105:=Tryz.underlying219
 a105:=Tryz.isAgg219
 z105:=Tryz.sizeOf219
 v105:=Tryz.zeroValue219
 t119:=Tryz.underlying254
 a119:=Tryz.isAgg254
 z119:=Tryz.sizeOf254
 t138:=Tryz.underlying256
 a138:=Tryz.isAgg256
 z138:=Tryz.sizeOf256
 v138:=Tryz.zeroValue256
 t139:=Tryz.underlying257
 a139:=Tryz.isAgg257
 z139:=Tryz.sizeOf257
 v139:=Tryz.zeroValue257
 t146:=Tryz.underlying229
 a146:=Tryz.isAgg229
 z146:=Tryz.sizeOf229
 v146:=Tryz.zeroValue229
 g1:=by kernel_rfl
 g3:=by kernel_rfl
 g4:=by kernel_rfl
 i0:=by kernel_rfl
 i3:=by kernel_rfl
 i4:=by kernel_rfl
 i5:=by kernel_rfl
 i9:=by kernel_rfl
 i21:=by kernel_rfl
 i31:=by kernel_rfl
 i46:=by kernel_rfl
 i51:=by kernel_rfl
 i105:=by kernel_rfl
 i138:=by kernel_rfl
 i139:=by kernel_rfl
 i146:=by kernel_rfl
 m1:=by kernel_rfl
 s1_3:=fun w h=>Go.Proofs.cell_of_shapedOpen_int (zero := #[.int .i64 0]) (t:=3) h (of_decide_eq_true (by kernel_rfl)) (by kernel_rfl) rfl (by kernel_rfl) (by kernel_rfl) Tryz.underlying3
 m3:=by kernel_rfl
 m4:=by kernel_rfl }
def Tryz.eT:Go.Shelf.Ren:=⟨fun|194=>167|n=>n,fun|31=>24|9=>9|3=>3|4=>4|0=>0|n=>n,fun|n=>n⟩
theorem Tryz.Y1:Go.Proofs.Lays.n194 prog Tryz.eT:={
 mixed:=by kernel_rfl
 f194:=Tryz.func167.trans (congrArg some (by kernel_rfl))
 t0:=Tryz.underlying0
 a0:=Tryz.isAgg0
 z0:=Tryz.sizeOf0
 v0:=Tryz.zeroValue0
 t3:=Tryz.underlying3
 a3:=Tryz.isAgg3
 z3:=Tryz.sizeOf3
 v3:=Tryz.zeroValue3
 t4:=Tryz.underlying4
 a4:=Tryz.isAgg4
 z4:=Tryz.sizeOf4
 v4:=Tryz.zeroValue4
 t9:=Tryz.underlying9
 a9:=Tryz.isAgg9
 z9:=Tryz.sizeOf9
 v9:=Tryz.zeroValue9
 t31:=Tryz.underlying24
 a31:=Tryz.isAgg24
 z31:=Tryz.sizeOf24
 v31:=Tryz.zeroValue24 }
theorem Tryz.join_none (a:Option Addr)(c:Nat)(sep:ByteArray)(w:World) :
 Calls prog 191 #[.slice a 0 c,.string sep] w fun e w'=>e=.returned (.string ⟨#[]⟩)∧w'=w:=Any.strings_Join_none Tryz.Y3 Tryz.uW a c sep w
theorem Tryz.join_some (bk o c:Nat) (xs:List ByteArray) (sep:ByteArray) (w:World)
 (hcells:∀ (j:Nat) x,xs[j]? = some x→w.cell? ⟨bk,o+j,none⟩=some (.string x))
 (hbk:bk<w.heap.size) (hN:xs.length≤140737488355328) (hcap:xs.length≤c)
 (hlen:(Lib.join (xs.map (·.data.toList)) sep.data.toList).length≤140737488355328) :
 Calls prog 191 #[.slice (some ⟨bk,o,none⟩) xs.length c,.string sep] w fun e w'=>e=.returned (.string ⟨(Lib.join (xs.map (·.data.toList)) sep.data.toList).toArray⟩)∧Go.RowKit.Below w.heap.size w w' :=
 Any.strings_Join Tryz.Y3 Tryz.uW bk o c xs sep w hcells hbk hN hcap hlen
theorem Tryz.itoa (n : Int) (h0 : -9223372036854775808 ≤ n) (h1 : n ≤ 9223372036854775807) (w : World) (htab : Lib.TabIs prog w "internal/strconv.uint64pow10" .u64 Lib.pow10Tab) :
 Calls prog 227 #[.int .i64 n] w fun e w'=>e=.returned (.string ⟨(Lib.itoa n).toArray⟩)∧∃ k os,w'=Go.Sort.grow (w.drewN k) os:=Any.strconv_Itoa Tryz.WV n h0 h1 w htab
theorem Tryz.dj (w:World)(e:TypeId)(s:ByteArray):Go.RowKit.Below w.heap.size w (Lib.bytesWorld w e s) :=
 ⟨rfl,rfl,rfl,by rw[Lib.bytesWorld_size];omega,fun k hk=>Lib.bytesWorld_at_old w e s k hk⟩
theorem Tryz.SS (s:ByteArray)(hmax:s.size≤281474976710656)(v:Int)(h:Lib.atoiAll s.data.toList=.ok v)(w:World) :
 Calls prog 188 #[.string s] w fun e w'=>e=.returned (.tuple #[.int .i64 v,.nilIface])∧Go.RowKit.Below w.heap.size w w' :=
 (Any.strconv_Atoi_ok Tryz.j7 s (by omega) v h w).mono fun e w' ⟨h1,h2⟩=>⟨h1,by
  rcases h2 with rfl|⟨t,rfl⟩
  · exact Go.RowKit.Below.refl _ _
  · exact Tryz.dj _ _ _⟩
theorem Tryz.VE (s : ByteArray) (hlim : s.size ≤ 281474976710656) (h : Lib.atoiAll s.data.toList = Lib.NumEnd.syntax) (tp : TypeId) (p : Value) (w : World) (hvar : w.var? prog "strconv.ErrSyntax" = some #[.iface tp p]) :
 Calls prog 188 #[.string s] w fun e w'=>∃ t z,e=.returned (.tuple #[.int .i64 0,.iface t z])∧Go.RowKit.Below w.heap.size w w' :=
 (Any.strconv_Atoi_syntax_var Tryz.j7 s hlim h tp p w hvar).mono fun e w' ⟨N,h1,_,_,h2⟩=>⟨_,_,h1,h2⟩
theorem Tryz.VF (s : ByteArray) (hlim : s.size ≤ 281474976710656) (h : Lib.atoiAll s.data.toList = .range) (tp : TypeId) (p : Value) (w : World) (hvar : w.var? prog "strconv.ErrRange" = some #[.iface tp p]) :
 Calls prog 188 #[.string s] w fun e w'=>∃ t z,e=.returned (.tuple #[.int .i64 (Lib.atoiSat s.data.toList),.iface t z])∧Go.RowKit.Below w.heap.size w w' :=
 (Any.strconv_Atoi_range_var Tryz.j7 s hlim h tp p w hvar).mono fun e w' ⟨N,h1,_,_,h2⟩=>⟨_,_,h1,h2⟩
theorem Tryz.WE (a b:ByteArray)(w:World):Calls prog 194 #[.string a,.string b] w fun e w'=>e=.returned (.int .i64 (Lib.compareBytes a.data.toList b.data.toList))∧w'=w:=Any.strings_Compare Tryz.S3 a b w
end Go.Proofs

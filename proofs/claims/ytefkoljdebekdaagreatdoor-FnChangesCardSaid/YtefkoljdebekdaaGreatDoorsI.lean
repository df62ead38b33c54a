/- Joined: X2 X3 X4 X6 TY XG X7 LT X5 S0 W6 J1 P1 V1 N1. Conditions: those of each lemma. -/
import Derived.Test.YtefkoljdebekdaaGreatDoorsH
import Derived.Lib.SortBridge
import Derived.Shelf.Sort.Plain
import Derived.Shelf.Slices.In.SortNone
import Derived.Shelf.Slices.CompactS
import Derived.Test.YtefkoljdebekdaaGreatDoorProg
import Derived.Shelf.Spec.SlicesGrow
import Derived.KernelRfl
import Derived.Test.YtefkoljdebekdaaGreatDoorsA
import Derived.Test.YtefkoljdebekdaaGreatDoorCards
import Derived.Test.YtefkoljdebekdaaGreatDoorTie
import Derived.WalkKit
import Derived.ProofKit
import Derived.OpenShut
import Derived.Deep.DeepHandedRow
import Derived.Lib.LaidTab
import Derived.Stop.LaidErr
import Derived.Lib.SplitLaws
import Derived.Lib.ItoaMem
import Derived.Lib.AtoiAll
set_option linter.unusedVariables false
set_option linter.unusedSimpArgs false
set_option maxRecDepth 100000
namespace Go.Proofs.YtefkoljdebekdaaGreatDoor
open Go.Proofs.Tryz
open E
def strsOf:List (List T)→Option (List Str)
 | []=>some []
 | c::r=>match c with
  | [.str l]=>(match strsOf r with|some ks=>some (l::ks)|none=>none)
  | _=>none
theorem vS:∀ ks:List Str,strsOf (strs ks)=some ks
 | []=>rfl
 | k::ks=>by
  have:=vS ks;simp only[strs]at this;simp only[strs,List.map_cons,strsOf,this]
theorem tF:∀ {es:List (List T)} {ks:List Str},strsOf es=some ks→es=strs ks
 | [],ks,h=>by simp only[strsOf]at h;cases h;rfl
 | c::r,ks,h=>by
  simp only[strsOf]at h
  split at h
  · split at h
    · rename_i ks' hk;cases h;rw[tF hk];rfl
    · cases h
  · cases h
def Xd:List V→Option V
 | [.t (.list 1 es),.t (.str sep)]=>match strsOf es with
  | some ks=>if ks.length≤140737488355328∧(Lib.join ks sep).length≤140737488355328 then some (.t (.str (Lib.join ks sep))) else none
  | none=>none
 | _=>none
def oD:List V→Option V
 | [.t (.str a),.t (.str b)]=>some (.t (.int .i64 (Lib.compareBytes a b)))
 | _=>none
def Xe:List V→Option V
 | [.t (.int .i64 n)]=>if -9223372036854775808≤n∧n≤9223372036854775807 then some (.t (.str (Lib.itoa n))) else none
 | _=>none
def Xp:List V→Option V
 | [.t (.str s)]=>if s.length≤281474976710656 then (match Lib.atoiAll s with
  | .ok v=>some (.tup [.t (.int .i64 v),.t .nili])
  | Lib.NumEnd.syntax=>some (.tup [.t (.int .i64 0),.t .nni])
  | .range=>some (.tup [.t (.int .i64 (Lib.atoiSat s)),.t .nni])) else none
 | _=>none
def Re:List V→Option V
 | [.t (.str s),.t (.str sep)]=>if s.length<4294967281 then some (.tup [.t (.str (Lib.cut s sep).1),.t (.str (Lib.cut s sep).2.1),.t (.bool (Lib.cut s sep).2.2)]) else none
 | _=>none
def jw (s sep:Str):List Str:=(Lib.splitB ⟨sep.toArray⟩ 0 (Lib.countB ⟨s.toArray⟩ ⟨sep.toArray⟩) ⟨s.toArray⟩).map (·.data.toList)
def ee:List V→Option V
 | [.t (.str s),.t (.str sep)]=>if s.length<4294967281∧1≤sep.length then some (.t (.list 1 (strs (jw s sep)))) else none
 | _=>none
theorem TE {w:World}{F:Nat→Prop}{u:Value}{ks:List Str}(h:RT w F u (.list 1 (strs ks))) :
 ∃ a c,u=.slice a ks.length c∧ks.length≤c∧(0<ks.length→∃ b o,a=some ⟨b,o,none⟩∧F b∧∀ (j:Nat) x,(ks.map fun l=>(⟨l.toArray⟩:ByteArray))[j]? = some x→w.cell? ⟨b,o+j,none⟩=some (.string x)):=by
 cases h with
 | list a n c sz es g hn hc h0 hz hr =>
  rw[zo]at hn;subst hn;refine⟨a,c,rfl,hc,fun hp=>?_⟩;obtain⟨b,o,e1,e2,e3⟩:=h0 hp;refine⟨b,o,e1,e2,fun j x hj=>?_⟩;have hjl:j<ks.length:=by have:=(List.getElem?_eq_some_iff.1 hj).1;simpa using this
  have h1:=e3 j 0 hjl (by omega);have h2:=hr j 0 [.str ks[j]] (.str ks[j]) (w8 ks j hjl) rfl;rw[show o+(j*1+0)=o+j by omega]at h1;rw[h1];generalize g j 0=gv at h2
  cases h2 with
  | str s _ hs =>
   simp[hjl]at hj;rw[← hj,← hs]
theorem uz {w w':World}{F:Nat→Prop}(h:Go.RowKit.Below w.heap.size w w')(hF:∀ b,F b→b<w.heap.size):(∀ b,F b→b<w'.heap.size)∧Nxt (own fun b=>w.heap.size≤b) w F zO w' F zO :=
 ⟨fun b hb=>Nat.lt_of_lt_of_le (hF b hb) h.size,⟨h.os,h.tape,h.output,h.size,fun b hb _=>h.block b hb,fun b hb=>h.block b (hF b hb),fun _ hb=>hb,fun _ hb=>.inl hb,Ext.refl _,fun _ _=>rfl⟩⟩
def ft (W0:World)(g:Nat)(e:List V→Option V):Prop:=∀ args v,e args=some v →
 (∃ fn, prog.funcs[g]? = some fn ∧ (fn.name == "runtime.NumGoroutine") = false ∧ fn.body.isNone = false) ∧
 ∀ (w:World) (F:Nat→Prop) (us:Array Value),vy W0 w F→(∀ b,F b→b<w.heap.size)→RVs w F zO us.toList args →
  Calls prog g us w fun e w'=>∃ u F',e=.returned u∧RV w' F' zO u v∧(∀ b,F' b→b<w'.heap.size)∧Nxt (own fun b=>w.heap.size≤b) w F zO w' F' zO
theorem S8 (W0 : World) : ft W0 191 Xd := by
 intro args v hv';unfold Xd at hv'
 split at hv'
 · rename_i es sep
   split at hv'
   · rename_i ks hks
     split at hv'
     · rename_i hl
       cases hv';obtain rfl:=tF hks;refine⟨⟨Tryz.f191,func191,by kernel_rfl,by kernel_rfl⟩,fun w F us hB hF hu=>?_⟩;obtain⟨us⟩:=us
       change RVs w F zO us _ at hu
       cases hu with
       | cons h1 h2 =>
       cases h2 with
       | cons h2 h3 =>
       cases h3;obtain⟨s,rfl,hs⟩:=sG h2;obtain⟨a,c,rfl,hc,h0⟩:=TE (R7 h1);have hfin:∀ (e:Ending) (w':World),(e=.returned (.string ⟨(Lib.join ks sep).toArray⟩)∧Go.RowKit.Below w.heap.size w w')→∃ u F',e=.returned u∧RV w' F' zO u (.t (.str (Lib.join ks sep)))∧(∀ b,F' b→b<w'.heap.size)∧Nxt (own fun b=>w.heap.size≤b) w F zO w' F' zO:=by
        rintro e w' ⟨rfl,hb⟩
        obtain⟨k1,k2⟩:=uz hb hF;exact⟨_,F,rfl,.t _ _ (.str _ _ (by simp)),k1,k2⟩
       by_cases hk:ks.length=0
       · have hk':ks=[]:=List.eq_nil_of_length_eq_zero hk;subst hk';refine (Tryz.join_none a c s w).mono fun e w' ⟨h1,h2⟩=>hfin e w' ⟨?_,?_⟩
         · rw[h1];rfl
         · rw[h2];exact Go.RowKit.Below.refl _ _
       · obtain⟨b,o,rfl,hb,hcell⟩:=h0 (by omega);have hmap:(ks.map fun l=>(⟨l.toArray⟩:ByteArray)).map (·.data.toList)=ks:=by
          rw[List.map_map];have:((fun x:ByteArray=>x.data.toList)∘fun l:List UInt8=>(⟨l.toArray⟩:ByteArray))=id:=by funext l;simp
          rw[this];simp
         have:=Tryz.join_some b o c (ks.map fun l=>(⟨l.toArray⟩:ByteArray)) s w hcell (hF b hb) (by simpa using hl.1) (by simpa using hc) (by rw[hmap,hs];exact hl.2);rw[hmap,hs,List.length_map]at this;exact this.mono fun e w' h=>hfin e w' h
     · cases hv'
   · cases hv'
 · cases hv'
theorem aD (W0:World):ft W0 194 oD:=by
 intro args v hv';unfold oD at hv'
 split at hv'
 · rename_i a b
   cases hv';refine⟨⟨Tryz.f194,func194,by kernel_rfl,by kernel_rfl⟩,fun w F us hB hF hu=>?_⟩;obtain⟨us⟩:=us
   change RVs w F zO us _ at hu
   cases hu with
   | cons h1 h2 =>
   cases h2 with
   | cons h2 h3 =>
   cases h3;obtain⟨s1,rfl,hs1⟩:=sG h1;obtain⟨s2,rfl,hs2⟩:=sG h2;refine (Tryz.WE s1 s2 w).mono fun e w' h=>?_
   obtain⟨rfl,rfl⟩:=h;rw[hs1,hs2];exact⟨_,F,rfl,.t _ _ (.int _ _),hF,Nxt.refl _ _ _ _⟩
 · cases hv'
theorem aN (w:World)(k:Nat)(os:Array Obj):Go.RowKit.Below w.heap.size w (Go.Sort.grow (w.drewN k) os) :=
 ⟨rfl,rfl,rfl,by simp[Go.Sort.grow],fun b hb=>by simp[Go.Sort.grow,Array.getElem?_append_left hb]⟩
theorem Wm {W0 w:World}{F:Nat→Prop}{n:String}{k:IntKind}{zs:List Int}(hB:vy W0 w F)(h:Lib.TabIs prog W0 n k zs):Lib.TabIs prog w n k zs:=by
 unfold Lib.TabIs World.var? at *
 cases hg:Tryz.prog.globalNamed n with
 | none=>simp[hg]at h
 | some g =>
  simp only[hg,Option.bind_some]at h ⊢;have hlt:g<W0.heap.size:=by
   refine Nat.lt_of_not_le fun hc=>?_
   rw[Array.getElem?_eq_none hc]at h
   cases h
  rw[hB.heap g hlt];exact h
theorem S9 (W0 : World) (hT : Lib.TabIs prog W0 "internal/strconv.uint64pow10" .u64 Lib.pow10Tab) : ft W0 227 Xe := by
 intro args v hv';unfold Xe at hv'
 split at hv'
 · rename_i n
   split at hv'
   · rename_i hn
     cases hv';refine⟨⟨Tryz.f227,func227,by kernel_rfl,by kernel_rfl⟩,fun w F us hB hF hu=>?_⟩;obtain⟨us⟩:=us
     change RVs w F zO us _ at hu
     cases hu with
     | cons h1 h2 =>
     cases h2
     cases h1 with
     | t _ _ h1 =>
     cases h1;refine (Tryz.itoa n hn.1 hn.2 w (Wm hB hT)).mono fun e w' h=>?_
     obtain⟨rfl,k,os,rfl⟩:=h;obtain⟨k1,k2⟩:=uz (aN w k os) hF;exact⟨_,F,rfl,.t _ _ (.str _ _ (by simp)),k1,k2⟩
   · cases hv'
 · cases hv'
theorem dA {W0 w:World}{F:Nat→Prop}{n:String}{cs:Array Value}(hB:vy W0 w F)(h:W0.var? prog n=some cs):w.var? prog n=some cs:=by
 unfold World.var? at *
 cases hg:Tryz.prog.globalNamed n with
 | none=>simp[hg]at h
 | some g =>
  simp only[hg,Option.bind_some]at h ⊢;have hlt:g<W0.heap.size:=by
   refine Nat.lt_of_not_le fun hc=>?_
   rw[Array.getElem?_eq_none hc]at h
   cases h
  rw[hB.heap g hlt];exact h
theorem aQ {w:World}{F:Nat→Prop}{ρ:y9}{u1 u2:Value}{x1 x2:T}(h1:RT w F u1 x1)(h2:RT w F u2 x2):RV w F ρ (.tuple #[u1,u2]) (.tup [.t x1,.t x2]):=by
 refine .tup _ _ (fun j=>if j=0 then u1 else u2) rfl (fun j hj=>?_) fun j x hj=>?_
 · match j,hj with
   | 0,_=>rfl
   | 1,_=>rfl
 · match j,hj with
   | 0,hj=>cases hj;exact .t _ _ h1
   | 1,hj=>cases hj;exact .t _ _ h2
   | j+2,hj=>simp at hj
theorem SU (W0 : World) (hS : ∃ tp p, W0.var? prog "strconv.ErrSyntax" = some #[.iface tp p]) (hR : ∃ tp p, W0.var? prog "strconv.ErrRange" = some #[.iface tp p]) : ft W0 188 Xp := by
 intro args v hv';unfold Xp at hv'
 split at hv'
 · rename_i l
   split at hv'
   · rename_i hl;refine⟨⟨Tryz.f188,func188,by kernel_rfl,by kernel_rfl⟩,fun w F us hB hF hu=>?_⟩;obtain⟨us⟩:=us
     change RVs w F zO us _ at hu
     cases hu with
     | cons h1 h2 =>
     cases h2;obtain⟨s,rfl,hs⟩:=sG h1;have hsz:s.size≤281474976710656:=by
      have:s.data.toList.length=s.size:=by simp
      rw[hs]at this;omega
     obtain⟨tS,pS,hS⟩:=hS;obtain⟨tR,pR,hR⟩:=hR
     split at hv'
     · rename_i n hn
       cases hv';refine (Tryz.SS s hsz n (by rw[hs];exact hn) w).mono fun e w' h=>?_
       obtain⟨rfl,hb⟩:=h;obtain⟨k1,k2⟩:=uz hb hF;exact⟨_,F,rfl,aQ (.int _ _) .nili,k1,k2⟩
     · rename_i hn
       cases hv';refine (Tryz.VE s hsz (by rw[hs];exact hn) tS pS w (dA hB hS)).mono fun e w' h=>?_
       obtain⟨t,z,rfl,hb⟩:=h;obtain⟨k1,k2⟩:=uz hb hF;exact⟨_,F,rfl,aQ (.int _ _) (.nni t z),k1,k2⟩
     · rename_i hn
       cases hv';refine (Tryz.VF s hsz (by rw[hs];exact hn) tR pR w (dA hB hR)).mono fun e w' h=>?_
       obtain⟨t,z,rfl,hb⟩:=h;obtain⟨k1,k2⟩:=uz hb hF;rw[hs];exact⟨_,F,rfl,aQ (.int _ _) (.nni t z),k1,k2⟩
   · cases hv'
 · cases hv'
theorem gC {W0 w:World}{F:Nat→Prop}{a:Addr}{v:Value}(hB:vy W0 w F)(h:W0.cell? a=some v):w.cell? a=some v:=by
 have hlt:a.block<W0.heap.size:=by
  refine Nat.lt_of_not_le fun hc=>?_
  simp[World.cell?,Array.getElem?_eq_none hc]at h
 unfold World.cell? at h ⊢;rw[hB.heap _ hlt];exact h
theorem below_drewN (w:World)(n:Nat):Go.RowKit.Below w.heap.size w (w.drewN n):=⟨rfl,rfl,rfl,Nat.le_refl _,fun _ _=>rfl⟩
theorem WI {w:World}{F:Nat→Prop}{ρ:y9}{u1 u2 u3:Value}{x1 x2 x3:T}(h1:RT w F u1 x1)(h2:RT w F u2 x2)(h3:RT w F u3 x3):RV w F ρ (.tuple #[u1,u2,u3]) (.tup [.t x1,.t x2,.t x3]):=by
 refine .tup _ _ (fun j=>if j=0 then u1 else if j=1 then u2 else u3) rfl (fun j hj=>?_) fun j x hj=>?_
 · match j,hj with
   | 0,_=>rfl
   | 1,_=>rfl
   | 2,_=>rfl
 · match j,hj with
   | 0,hj=>cases hj;exact .t _ _ h1
   | 1,hj=>cases hj;exact .t _ _ h2
   | 2,hj=>cases hj;exact .t _ _ h3
   | j+3,hj=>simp at hj
theorem Qr (W0:World)(hM:∃ m,W0.cell? ⟨Tryz.sd.g 1,0,none⟩=some (.int .i64 m)):ft W0 125 Re:=by
 intro args v hv';unfold Re at hv'
 split at hv'
 · rename_i l lsep
   split at hv'
   · rename_i hl
     cases hv';refine⟨⟨Tryz.f125,func125,by kernel_rfl,by kernel_rfl⟩,fun w F us hB hF hu=>?_⟩;obtain⟨us⟩:=us
     change RVs w F zO us _ at hu
     cases hu with
     | cons h1 h2 =>
     cases h2 with
     | cons h2 h3 =>
     cases h3;obtain⟨s,rfl,hs⟩:=sG h1;obtain⟨sep,rfl,hsep⟩:=sG h2;have hsz:s.size<4294967281:=by
      have:s.data.toList.length=s.size:=by simp
      rw[hs]at this;omega
     obtain⟨m,hM⟩:=hM;refine (Any.strings_Cut { Tryz.cH with } s sep m w hsz (gC hB hM)).mono fun e w' h=>?_
     rw[hs,hsep]at h;obtain⟨rfl,n,rfl⟩:=h;obtain⟨k1,k2⟩:=uz (below_drewN w n) hF;exact⟨_,F,rfl,WI (.str _ _ (by simp)) (.str _ _ (by simp)) (.bool _),k1,k2⟩
   · cases hv'
 · cases hv'
theorem XQ (w:World)(F:Nat→Prop)(hF:∀ b,F b→b<w.heap.size)(t:TypeId)(ps:List ByteArray)(n:Nat)(hn:ps.length=n) :
 RT (w.alloc (.cells (ps.map Value.string).toArray t)) (fun b=>F b∨b=w.heap.size) (.slice (some ⟨w.heap.size,0,none⟩) n n) (.list 1 (strs (ps.map (·.data.toList)))):=by
 have hcell:∀ j,j<ps.length→(w.alloc (.cells (ps.map Value.string).toArray t)).cell? ⟨w.heap.size,j,none⟩=some (.string (ps.getD j ByteArray.empty)):=fun j hj=>by
  have ha:(w.alloc (.cells (ps.map Value.string).toArray t)).heap=w.heap.push (.cells (ps.map Value.string).toArray t):=rfl;unfold World.cell?;rw[ha];simp[hj,List.getD]
 generalize w.alloc (.cells (ps.map Value.string).toArray t)=w1 at *;refine RT.list (F:=fun b=>F b∨b=w.heap.size) (some ⟨w.heap.size,0,none⟩) n n 1 (strs (ps.map (·.data.toList))) (fun i _=>.string (ps.getD i ByteArray.empty)) (by rw[zo,List.length_map];exact hn) (Nat.le_refl _) (fun _=>⟨w.heap.size,0,rfl,Or.inr rfl,fun i j hi hj=>?_⟩) (fun e he=>?_) fun i j cs x hi hj=>?_
 · obtain rfl:j=0:=by omega
   rw[show 0+(i*1+0)=i by omega];exact hcell i (by omega)
 · simp only[strs,List.mem_map]at he;obtain⟨a,_,rfl⟩:=he;rfl
 · simp only[strs,List.map_map,List.getElem?_map,Option.map_eq_some_iff]at hi;obtain⟨a,ha,rfl⟩:=hi
   match j,hj with
   | 0,hj =>
    simp[Function.comp]at hj;subst hj;have:ps.getD i ByteArray.empty=a:=by simp[List.getD,ha]
    rw[this];exact .str _ _ rfl
   | j+1,hj=>simp at hj
theorem XL (w:World)(F:Nat→Prop)(hF:∀ b,F b→b<w.heap.size)(o:Obj):(∀ b,(F b∨b=w.heap.size)→b<(w.alloc o).heap.size)∧Nxt (own fun b=>w.heap.size≤b) w F zO (w.alloc o) (fun b=>F b∨b=w.heap.size) zO:=by
 have ha:(w.alloc o).heap=w.heap.push o:=rfl;have hsz:(w.alloc o).heap.size=w.heap.size+1:=by rw[ha,Array.size_push]
 have hold:∀ b,b<w.heap.size→(w.alloc o).heap[b]? = w.heap[b]? := fun b hb=>by
  rw[ha,Array.getElem?_push_lt hb,Array.getElem?_eq_getElem hb]
 refine⟨fun b hb=>?_,rfl,rfl,rfl,by omega,fun b hb _=>hold b hb,fun b hb=>hold b (hF b hb),fun _ hb=>.inl hb,fun b hb=>?_,Ext.refl _,fun _ _=>rfl⟩
 · rcases hb with hb|rfl
   · have:=hF b hb;omega
   · omega
 · rcases hb with hb|rfl
   · exact .inl hb
   · exact .inr (Nat.le_refl _)
theorem Wr (W0:World)(hM:∃ m,W0.cell? ⟨Tryz.sb.g 1,0,none⟩=some (.int .i64 m)):ft W0 126 ee:=by
 intro args v hv';unfold ee at hv'
 split at hv'
 · rename_i l lsep
   split at hv'
   · rename_i hl
     cases hv';refine⟨⟨Tryz.f126,func126,by kernel_rfl,by kernel_rfl⟩,fun w F us hB hF hu=>?_⟩;obtain⟨us⟩:=us
     change RVs w F zO us _ at hu
     cases hu with
     | cons h1 h2 =>
     cases h2 with
     | cons h2 h3 =>
     cases h3;obtain⟨s,rfl,hs⟩:=sG h1;obtain⟨sep,rfl,hsep⟩:=sG h2;have hsz:s.size<4294967281:=by
      have:s.data.toList.length=s.size:=by simp
      rw[hs]at this;omega
     have hsp:1≤sep.size:=by
      have:sep.data.toList.length=sep.size:=by simp
      rw[hsep]at this;omega
     obtain⟨m,hM⟩:=hM;refine (Any.strings_Split { Tryz.cF with } Tryz.cF.i9 s sep m w hsz (gC hB hM) hsp).mono fun e w' h=>?_
     have es:(⟨l.toArray⟩:ByteArray)=s:=by rw[← hs]
     have esep:(⟨lsep.toArray⟩:ByteArray)=sep:=by rw[← hsep]
     have hlen:=Lib.splitB_all sep hsp 0 (Lib.countB s sep) s rfl;unfold jw;rw[es,esep];obtain⟨rfl,rfl⟩:=h;generalize Lib.splitB sep 0 (Lib.countB s sep) s=ps at *;generalize Lib.countB s sep=n at *;obtain⟨k1,k2⟩:=XL w F hF (.cells (ps.map Value.string).toArray (Tryz.sb.t 9));exact⟨_,fun b=>F b∨b=w.heap.size,rfl,.t _ _ (XQ w F hF _ ps (n+1) hlen),k1,k2⟩
   · cases hv'
 · cases hv'
def wy (ks:List Str):List Str:=ks.mergeSort fun x y=>decide (x≤y)
theorem qT (ks:List Str):(wy ks).Perm ks:=List.mergeSort_perm _ _
theorem ij (ks:List Str):(wy ks).length=ks.length:=(qT ks).length_eq
def X6 (args:List V)(h:Heap):Option (V×Heap) :=
 match args,h with
 | [.sl 0 0 n cap],[.ts 1 es]=>match strsOf es with
  | some ks=>if n=ks.length∧ks.length≤1073741824 then some (.tup [],[.ts 1 (strs (wy ks))]) else none
  | none=>none
 | _,_=>none
variable {w:World} {F:Nat→Prop} {ρ:y9} {Ow:Own} {h:Heap}
theorem rn (hS:St w F ρ Ow h){w':World}(h1:w'.os=w.os)(h2:w'.tape=w.tape)(h3:w'.output=w.output)(h4:w.heap.size≤w'.heap.size)(h5:∀ b,b<w.heap.size→w'.heap[b]? = w.heap[b]?):St w' F ρ Ow h∧Nxt Ow w F ρ w' F ρ:=by
 have hN:Nxt Ow w F ρ w' F ρ:=⟨h1,h2,h3,h4,fun b hb _=>h5 b hb,fun b hb=>h5 b (hS.fsz b hb),fun _ x=>x,fun _ x=>.inl x,Ext.refl _,fun _ _=>rfl⟩;refine⟨hS.next hN hS.out (fun b hb=>Nat.lt_of_lt_of_le (hS.fsz b hb) h4) (fun r b hr=>.inl ⟨hr,fun L hL hw=>⟨h5 _ ((hS.blk r b hr).vX hw hL).2.2,((hS.blk r b hr).vX hw hL).1⟩⟩)
  (hS.owned hN (fun b _ hF hlt _=>⟨h5 b hlt,hF⟩) (fun r i j x ho=>⟨ho,fun L u hL hu=>?_⟩) fun r b L hr hw hL=>.inr (hS.same (Ext.refl _) hr hw hL)),hN⟩
 obtain⟨c,el',fr,q1,q2⟩:=hu;exact⟨c,el',fr,(h5 _ (Array.getElem?_eq_some_iff.1 q1).1).trans q1,q2⟩
theorem Tryz.ah (p:Option Addr)(cap:Nat)(w:World):Calls prog 163 #[.slice p 0 cap] w fun e w'=>e=.returned (.tuple #[])∧w'=w:=Any.slices_Sort_string_none Tryz.Y2 p cap w
theorem Tryz.ssort (blk off cap:Nat)(ss:List (List UInt8))(w:World)(hH:Go.Sort.Holds encStr w blk off ss.toArray)(hblk:blk<w.heap.size)(hsz:ss.length<4611686018427387904) :
 Calls prog 163 #[.slice (some ⟨blk,off,none⟩) ss.length cap] w fun e w' =>
  e=.returned (.tuple #[])∧∃ n os,w'=Go.Sort.grow (Go.Sort.putRow encStr (Go.Sort.ahead w n) blk off (ss.mergeSort fun x y=>decide (x≤y)).toArray) os:=Any.slices_Sort_string Tryz.Y2 blk off cap ss w hH hblk hsz
theorem Ty (W0 : World) : rJ prog W0 163 X6 := by
 intro args h v h' hv;unfold X6 at hv
 split at hv
 · rename_i n cap es
   split at hv
   · rename_i ks hks
     split at hv
     · rename_i hn;obtain⟨hn,hlim⟩:=hn
       cases hv;obtain rfl:=tF hks;refine⟨⟨Tryz.f163,func163,by kernel_rfl,by kernel_rfl⟩,fun Ow w F ρ us hB hS hO hu=>?_⟩;obtain⟨us⟩:=us
       change RVs w F ρ us _ at hu
       cases hu with
       | cons h1 h2 =>
       cases h2;subst hn;have htup':∀ {w':World},RV w' F ρ (.tuple #[]) (.tup []):=.tup _ _ (fun _=>undef) rfl (fun j hj=>by simp at hj) fun j x hj=>by simp at hj
       have htup:RV w F ρ (.tuple #[]) (.tup []):=htup';have none_case:ks=[]→∀ (a:Option Addr) (c:Nat),Calls prog 163 #[.slice a 0 c] w fun e w'=>∃ u F' ρ',e=.returned u∧RV w' F' ρ' u (.tup [])∧St w' F' ρ' Ow [.ts 1 (strs (wy ks))]∧Nxt Ow w F zO w' F' zO∧∀ r l,r<1→ρ r=some l→ρ' r=some l:=fun hk a c=>by
        subst hk;refine (Tryz.ah a c w).mono fun e w' hp=>?_
        obtain⟨rfl,rfl⟩:=hp;exact⟨_,F,ρ,rfl,htup,by rw[show wy []=[] by simp[wy]];exact hS,Nxt.refl _ _ _ _,fun _ _ _ hl=>hl⟩
       generalize hkl:ks.length=kl at h1
       cases h1 with
       | slP r cap a hρ hc=>exact none_case (List.eq_nil_of_length_eq_zero hkl) a 0
       | sl r off len cap L a c hρ ha hl hnn hc0 hc1 hz =>
        by_cases hk0:ks=[]
        · subst hk0;simp at hkl;subst hkl;exact none_case rfl a c
        · have hpos:0<ks.length:=by cases ks with|nil=>exact absurd rfl hk0|cons x r=>simp
          have hcne:c≠0:=by omega
          obtain rfl:=ha.resolve_right hcne;rcases hS.blk 0 _ rfl with⟨L',q1,q2,q3,q4,q5⟩|⟨q1,q2⟩
          · rw[q1]at hρ;cases hρ;have hrow:=q3;obtain⟨e1,e2,cc,el,fr,e3,e4,e5,e6,e7⟩:=q3;rw[zo]at e1;have hlt:L.b<w.heap.size:=(Array.getElem?_eq_some_iff.1 e3).1;have hcell:∀ j (hj:j<ks.length),cc[L.o+j]? = some (encStr ks[j]):=fun j hj=>by
             obtain⟨u,hu,hr⟩:=e7 j 0 [.str ks[j]] (.str ks[j]) (w8 ks j hj) rfl;rw[q2,show L.o+(j*1+0)=L.o+j by omega]at hu;rw[hu]
             cases hr with
             | str s _ hs =>
              show some (Value.string s)=some (Value.string ⟨ks[j].toArray⟩)
              rw[← hs]
            have hzz:L.o+L.n≤L.z:=by rw[q2,Nat.mul_one]at e6;exact e6
            have hH:Go.Sort.Holds encStr w L.b L.o ks.toArray:=fun j hj=>by
             have hj':j<ks.length:=by simpa using hj
             have hlen:L.o+j<cc.size:=by rw[e4];omega
             have hx:=hcell j hj';refine⟨?_,?_⟩
             · unfold World.cell?;rw[e3];simp[hx,hj']
             · unfold World.frozen?;rw[e3];have:=e5 (L.o+j) hlen;simp only[decide_eq_false_iff_not,Bool.and_eq_false_iff,not_and,Nat.not_lt]at this ⊢
               first|exact this|simpa using this|(simp;omega)
            have hslen:=ij ks;refine Calls.mono (by
             have:=Tryz.ssort L.b L.o c ks w hH hlt (by omega);rw[hkl]at this;rw[show L.o+0*L.sz=L.o by omega];exact this) fun e w' hp=>?_
            obtain⟨rfl,q,os,hw'⟩:=hp
            change w'=Go.Sort.grow (Go.Sort.putRow encStr (Go.Sort.ahead w q) L.b L.o (wy ks).toArray) os at hw'
            rw[Lib.putRow_eq_setCells encStr w L.b L.o ks.toArray (wy ks) q hH (by rw[hslen];simp)]at hw';obtain⟨hS1,hN1⟩:=rn (w':=w.drewN q) hS rfl rfl rfl (Nat.le_refl _) (fun _ _=>rfl);have hfit:L.o+((wy ks).map encStr).length≤cc.size:=by rw[List.length_map,hslen,e4];omega
            obtain⟨c',k1,k2,k3⟩:=xc ((wy ks).map encStr) L.b L.o (w.drewN q) cc el fr e3 hfit;obtain⟨hS2,hN2⟩:=r8 (blk:=.ts 1 (strs (wy ks))) hS1 (r:=0) rfl rfl q1 L.o ((wy ks).map encStr) (fun hN=>.inl ⟨L,q1,q2,⟨by rw[zo,hslen];exact e1,fun e he=>by
             simp only[strs,List.mem_map]at he;obtain⟨x,_,rfl⟩:=he;exact q2.symm,c',el,fr,k1,by rw[k2,e4],fun k hk=>e5 k (by rw[← k2];exact hk),e6,fun i j cs x hi hj=>by
              have hil:=(List.getElem?_eq_some_iff.1 hi).1;rw[zo]at hil;rw[w8 (wy ks) i hil]at hi
              cases hi
              match j,hj with
              | 0,hj =>
               cases hj;refine⟨encStr (wy ks)[i],?_,.str _ _ (by simp)⟩;rw[q2,show L.o+(i*1+0)=L.o+i by omega,k3,if_pos ⟨by omega,by rw[List.length_map];omega⟩,show L.o+i - L.o=i by omega];simp[hil]
              | j+1,hj=>simp at hj⟩,q4,q5⟩) (fun i j x ho=>by
             obtain⟨sz,es,cs,h1,_⟩:=ho;simp at h1)
            obtain⟨hS3,hN3⟩:=rn (w':=w') hS2 (by rw[hw'];rfl) (by rw[hw'];rfl) (by rw[hw'];rfl) (by rw[hw'];simp[Go.Sort.grow]) (fun b hb=>by rw[hw'];simp only[Go.Sort.grow];rw[Array.getElem?_append_left hb]);exact⟨_,F,ρ,rfl,htup',hS3,((hN1.trans hN2).trans hN3).forget (Ext.refl _),fun _ _ _ hl=>hl⟩
          · have:ks=[]:=by
             have:=congrArg List.length q2;rw[zo]at this;exact List.eq_nil_of_length_eq_zero this
            exact absurd this hk0
     · cases hv
   · cases hv
 · cases hv
end Go.Proofs.YtefkoljdebekdaaGreatDoor
/- Rows of texts written anew by the library: slices.Compact by the kit's own contract. Conditions: those of each lemma. -/
namespace Go.Proofs.YtefkoljdebekdaaGreatDoor
open Go.Proofs.Tryz
open E
section
variable {w:World} {F:Nat→Prop} {ρ:y9} {Ow:Own} {h:Heap}
theorem Zz {ks:List Str}(hS:St w F ρ Ow [.ts 1 (strs ks)])(hk0:ks≠[]){L:E.Loc}(hρ:ρ 0=some (some L)) :
 Go.Sort.Holds encStr w L.b L.o ks.toArray∧L.b<w.heap.size∧L.sz=1∧L.n=ks.length∧¬ F L.b ∧
 ∀ (ys:List Str) (q:Nat) (os:Array Obj) (w':World),ys.length=ks.length→w'=Go.Sort.grow ((w.drewN q).setCells L.b L.o (ys.map encStr)) os→St w' F ρ Ow [.ts 1 (strs ys)]∧Nxt Ow w F zO w' F zO:=by
 rcases hS.blk 0 _ rfl with⟨L',q1,q2,q3,q4,q5⟩|⟨q1,q2⟩
 · rw[q1]at hρ;cases hρ;have hrow:=q3;obtain⟨e1,e2,cc,el,fr,e3,e4,e5,e6,e7⟩:=q3;rw[zo]at e1;have hlt:L.b<w.heap.size:=(Array.getElem?_eq_some_iff.1 e3).1;have hcell:∀ j (hj:j<ks.length),cc[L.o+j]? = some (encStr ks[j]):=fun j hj=>by
    obtain⟨u,hu,hr⟩:=e7 j 0 [.str ks[j]] (.str ks[j]) (w8 ks j hj) rfl;rw[q2,show L.o+(j*1+0)=L.o+j by omega]at hu;rw[hu]
    cases hr with
    | str s _ hs =>
     show some (Value.string s)=some (Value.string ⟨ks[j].toArray⟩)
     rw[← hs]
   have hzz:L.o+L.n≤L.z:=by rw[q2,Nat.mul_one]at e6;exact e6
   have hH:Go.Sort.Holds encStr w L.b L.o ks.toArray:=fun j hj=>by
    have hj':j<ks.length:=by simpa using hj
    have hlen:L.o+j<cc.size:=by rw[e4];omega
    have hx:=hcell j hj';refine⟨?_,?_⟩
    · unfold World.cell?;rw[e3];simp[hx,hj']
    · unfold World.frozen?;rw[e3];have:=e5 (L.o+j) hlen;simp only[decide_eq_false_iff_not,Bool.and_eq_false_iff,not_and,Nat.not_lt]at this ⊢
      first|exact this|simpa using this|(simp;omega)
   refine⟨hH,hlt,q2,e1.symm,q4,fun ys q os w' hys hw'=>?_⟩;obtain⟨hS1,hN1⟩:=rn (w':=w.drewN q) hS rfl rfl rfl (Nat.le_refl _) (fun _ _=>rfl);have hfit:L.o+(ys.map encStr).length≤cc.size:=by rw[List.length_map,hys,e4];omega
   obtain⟨c',k1,k2,k3⟩:=xc (ys.map encStr) L.b L.o (w.drewN q) cc el fr e3 hfit;obtain⟨hS2,hN2⟩:=r8 (blk:=.ts 1 (strs ys)) hS1 (r:=0) rfl rfl q1 L.o (ys.map encStr) (fun hN=>.inl ⟨L,q1,q2,⟨by rw[zo,hys];exact e1,fun e he=>by
    simp only[strs,List.mem_map]at he;obtain⟨x,_,rfl⟩:=he;exact q2.symm,c',el,fr,k1,by rw[k2,e4],fun k hk=>e5 k (by rw[← k2];exact hk),e6,fun i j cs x hi hj=>by
     have hil:=(List.getElem?_eq_some_iff.1 hi).1;rw[zo]at hil;rw[w8 ys i hil]at hi
     cases hi
     match j,hj with
     | 0,hj =>
      cases hj;refine⟨encStr ys[i],?_,.str _ _ (by simp)⟩;rw[q2,show L.o+(i*1+0)=L.o+i by omega,k3,if_pos ⟨by omega,by rw[List.length_map];omega⟩,show L.o+i - L.o=i by omega];simp[hil]
     | j+1,hj=>simp at hj⟩,q4,q5⟩) (fun i j x ho=>by
    obtain⟨sz,es,cs,h1,_⟩:=ho;simp at h1)
   obtain⟨hS3,hN3⟩:=rn (w':=w') hS2 (by rw[hw'];rfl) (by rw[hw'];rfl) (by rw[hw'];rfl) (by rw[hw'];simp[Go.Sort.grow]) (fun b hb=>by rw[hw'];simp only[Go.Sort.grow];rw[Array.getElem?_append_left hb]);exact⟨hS3,((hN1.trans hN2).trans hN3).forget (Ext.refl _)⟩
 · have:ks=[]:=by
    have:=congrArg List.length q2;rw[zo]at this;exact List.eq_nil_of_length_eq_zero this
   exact absurd this hk0
end
def uV (ks:List Str):List Str:=Lib.compact ks++List.replicate (ks.length - (Lib.compact ks).length) []
theorem pq (ks:List Str):(Lib.compact ks).length≤ks.length:=by
 unfold Lib.compact Lib.compactUpTo;rw[List.length_map];exact Nat.le_trans (List.length_filter_le _ _) (by simp)
theorem nO (ks:List Str):(uV ks).length=ks.length:=by
 have:=pq ks;unfold uV;simp only[List.length_append,List.length_replicate];omega
def Xj (args:List V)(h:Heap):Option (V×Heap) :=
 match args,h with
 | [.sl 0 0 n cap],[.ts 1 es]=>match strsOf es with
  | some ks=>if n=ks.length∧ks.length≤1073741824 then some (.sl 0 0 (Lib.compact ks).length cap,[.ts 1 (strs (uV ks))]) else none
  | none=>none
 | _,_=>none
theorem Tryz.WG (blk off cap:Nat)(zs:List (List UInt8))(w:World)(hH:Go.Sort.Holds encStr w blk off zs.toArray)(hsz:zs.length≤9223372036854775807)(hcap:zs.length≤cap) :
 Calls prog 167 #[.slice (some ⟨blk,off,none⟩) zs.length cap] w fun e w'=>e=.returned (.slice (some ⟨blk,off,none⟩) (Lib.compact zs).length cap)∧∃ q,w'=Go.Sort.putRow encStr (Go.Sort.ahead w q) blk off (Lib.compact zs++List.replicate (zs.length - (Lib.compact zs).length) []).toArray:=Any.slices_Compact_string Tryz.Y1 blk off cap zs w hH hsz hcap
theorem Tryz.jJ (a:Option Addr)(cap:Nat)(w:World):Calls prog 167 #[.slice a 0 cap] w fun e w'=>e=.returned (.slice a 0 cap)∧w'=w:=Any.slices_Compact_string_empty Tryz.Y1 a cap w
theorem Sr (W0 : World) : rJ prog W0 167 Xj := by
 intro args h v h' hv;unfold Xj at hv
 split at hv
 · rename_i n cap es
   split at hv
   · rename_i ks hks
     split at hv
     · rename_i hn;obtain⟨hn,hlim⟩:=hn
       cases hv;obtain rfl:=tF hks;refine⟨⟨Tryz.f167,func167,by kernel_rfl,by kernel_rfl⟩,fun Ow w F ρ us hB hS hO hu=>?_⟩;obtain⟨us⟩:=us
       change RVs w F ρ us _ at hu
       cases hu with
       | cons h1 h2 =>
       cases h2;subst hn;have none_case:ks=[]→∀ (a:Option Addr) (c:Nat),RV w F ρ (.slice a 0 c) (.sl 0 0 0 cap)→Calls prog 167 #[.slice a 0 c] w fun e w'=>∃ u F' ρ',e=.returned u∧RV w' F' ρ' u (.sl 0 0 (Lib.compact ks).length cap)∧St w' F' ρ' Ow [.ts 1 (strs (uV ks))]∧Nxt Ow w F zO w' F' zO∧∀ r l,r<1→ρ r=some l→ρ' r=some l:=fun hk a c hrv=>by
        subst hk;refine (Tryz.jJ a c w).mono fun e w' hp=>?_
        obtain⟨rfl,rfl⟩:=hp;exact⟨_,F,ρ,rfl,hrv,hS,Nxt.refl _ _ _ _,fun _ _ _ hl=>hl⟩
       generalize hkl:ks.length=kl at h1
       cases h1 with
       | slP r cap a hρ hc=>exact none_case (List.eq_nil_of_length_eq_zero hkl) a 0 (.slP _ _ _ hρ hc)
       | sl r off len cap L a c hρ ha hl hnn hc0 hc1 hz =>
        by_cases hk0:ks=[]
        · subst hk0;simp at hkl;subst hkl;exact none_case rfl a c (.sl _ _ _ _ L _ _ hρ ha hl hnn hc0 hc1 hz)
        · have hpos:0<ks.length:=by cases ks with|nil=>exact absurd rfl hk0|cons x r=>simp
          have hcne:c≠0:=by omega
          obtain rfl:=ha.resolve_right hcne;obtain⟨hH,hlt,q2,q3,_,hput⟩:=Zz hS hk0 hρ;have hcle:=pq ks;refine Calls.mono (by
           have:=Tryz.WG L.b L.o c ks w hH (by omega) (by omega);rw[hkl]at this;rw[show L.o+0*L.sz=L.o by omega];exact this) fun e w' hp=>?_
          obtain⟨rfl,q,hw'⟩:=hp;rw[← hkl]at hw'
          change w'=Go.Sort.putRow encStr (Go.Sort.ahead w q) L.b L.o (uV ks).toArray at hw'
          rw[Lib.putRow_eq_setCells encStr w L.b L.o ks.toArray (uV ks) q hH (by rw[nO];simp)]at hw';obtain⟨hS3,hN3⟩:=hput (uV ks) q #[] w' (nO ks) (by rw[hw'];simp);refine⟨_,F,ρ,rfl,?_,hS3,hN3,fun _ _ _ hl=>hl⟩;exact .sl 0 0 _ cap L _ c hρ (.inl (by rw[show L.o+0*L.sz=L.o by omega])) (by omega) (by omega) hc0 hc1 hz
     · cases hv
   · cases hv
 · cases hv
end Go.Proofs.YtefkoljdebekdaaGreatDoor
/- The types' facts of this seat, written by a program of mine (tys.py) and checked one by one. Conditions: none. -/
namespace Go.Proofs.YtefkoljdebekdaaGreatDoor
open Go.Proofs.Tryz
open E
theorem TYS:zC prog 1=1 ∧
 yd prog 1=false ∧
 known prog 1=true ∧
 prog.bytesOf 1=8 ∧
 yo prog 1=none ∧
 isStr prog 1=false ∧
 xH prog 1=false ∧
 zZ prog 1=false ∧
 isIf prog 1=false ∧
 zeroOf prog 1=some [.t .nilf] ∧
 isInt prog 1=none ∧
 zC prog 2=1 ∧
 yd prog 2=false ∧
 known prog 2=true ∧
 prog.bytesOf 2=8 ∧
 yo prog 2=none ∧
 isStr prog 2=false ∧
 xH prog 2=false ∧
 zZ prog 2=false ∧
 isIf prog 2=false ∧
 zeroOf prog 2=some [.t (.int .i64 0)] ∧
 isInt prog 2=some .i64 ∧
 zC prog 3=1 ∧
 yd prog 3=false ∧
 known prog 3=true ∧
 prog.bytesOf 3=8 ∧
 yo prog 3=none ∧
 isStr prog 3=false ∧
 xH prog 3=false ∧
 zZ prog 3=false ∧
 isIf prog 3=false ∧
 zeroOf prog 3=some [.t (.int .i64 0)] ∧
 isInt prog 3=some .i64 ∧
 zC prog 4=1 ∧
 yd prog 4=false ∧
 known prog 4=true ∧
 prog.bytesOf 4=1 ∧
 yo prog 4=none ∧
 isStr prog 4=false ∧
 xH prog 4=false ∧
 zZ prog 4=true ∧
 isIf prog 4=false ∧
 zeroOf prog 4=some [.t (.bool false)] ∧
 isInt prog 4=none ∧
 zC prog 5=1 ∧
 yd prog 5=false ∧
 known prog 5=true ∧
 prog.bytesOf 5=1 ∧
 yo prog 5=none ∧
 isStr prog 5=false ∧
 xH prog 5=false ∧
 zZ prog 5=false ∧
 isIf prog 5=false ∧
 zeroOf prog 5=some [.t (.int .u8 0)] ∧
 isInt prog 5=some .u8 ∧
 zC prog 6=1 ∧
 yd prog 6=false ∧
 known prog 6=true ∧
 prog.bytesOf 6=1 ∧
 yo prog 6=none ∧
 isStr prog 6=false ∧
 xH prog 6=false ∧
 zZ prog 6=false ∧
 isIf prog 6=false ∧
 zeroOf prog 6=some [.t (.int .u8 0)] ∧
 isInt prog 6=some .u8 ∧
 zC prog 8=4 ∧
 yd prog 8=true ∧
 known prog 8=true ∧
 prog.bytesOf 8=24 ∧
 yo prog 8=none ∧
 isStr prog 8=false ∧
 xH prog 8=false ∧
 zZ prog 8=false ∧
 isIf prog 8=false ∧
 uR prog 8=true ∧
 fOf prog 8 0=some (0,1,false) ∧
 fTy prog 8 0=2 ∧
 fOf prog 8 1=some (1,1,false) ∧
 fTy prog 8 1=3 ∧
 fOf prog 8 2=some (2,1,false) ∧
 fTy prog 8 2=4 ∧
 fOf prog 8 3=some (3,1,false) ∧
 fTy prog 8 3=6 ∧
 zeroOf prog 8=some [.t (.int .i64 0),.t (.int .i64 0),.t (.bool false),.t (.int .u8 0)] ∧
 isInt prog 8=none ∧
 zC prog 9=1 ∧
 yd prog 9=false ∧
 known prog 9=true ∧
 prog.bytesOf 9=16 ∧
 yo prog 9=none ∧
 isStr prog 9=true ∧
 xH prog 9=false ∧
 zZ prog 9=false ∧
 isIf prog 9=false ∧
 zeroOf prog 9=some [.t (.str [])] ∧
 isInt prog 9=none ∧
 zC prog 12=1 ∧
 yd prog 12=false ∧
 known prog 12=true ∧
 prog.bytesOf 12=8 ∧
 yo prog 12=none ∧
 isStr prog 12=false ∧
 xH prog 12=false ∧
 zZ prog 12=false ∧
 isIf prog 12=false ∧
 zeroOf prog 12=some [.t (.int .u64 0)] ∧
 isInt prog 12=some .u64 ∧
 zC prog 20=1 ∧
 yd prog 20=false ∧
 known prog 20=true ∧
 prog.bytesOf 20=16 ∧
 yo prog 20=none ∧
 isStr prog 20=false ∧
 xH prog 20=false ∧
 zZ prog 20=false ∧
 isIf prog 20=true ∧
 zeroOf prog 20=some [.t .nili] ∧
 isInt prog 20=none ∧
 zC prog 21=1 ∧
 yd prog 21=false ∧
 known prog 21=true ∧
 prog.bytesOf 21=4 ∧
 yo prog 21=none ∧
 isStr prog 21=false ∧
 xH prog 21=false ∧
 zZ prog 21=false ∧
 isIf prog 21=false ∧
 zeroOf prog 21=some [.t (.int .i32 0)] ∧
 isInt prog 21=some .i32 ∧
 zC prog 22=1 ∧
 yd prog 22=false ∧
 known prog 22=true ∧
 prog.bytesOf 22=24 ∧
 yo prog 22=some 5 ∧
 isStr prog 22=false ∧
 xH prog 22=true ∧
 zZ prog 22=false ∧
 isIf prog 22=false ∧
 zeroOf prog 22=some [.nil 1] ∧
 isInt prog 22=none ∧
 zC prog 24=1 ∧
 yd prog 24=false ∧
 known prog 24=true ∧
 prog.bytesOf 24=24 ∧
 yo prog 24=some 9 ∧
 isStr prog 24=false ∧
 xH prog 24=true ∧
 zZ prog 24=false ∧
 isIf prog 24=false ∧
 zeroOf prog 24=some [.nil 1] ∧
 isInt prog 24=none ∧
 zC prog 25=1 ∧
 yd prog 25=false ∧
 known prog 25=true ∧
 prog.bytesOf 25=24 ∧
 yo prog 25=some 51 ∧
 isStr prog 25=false ∧
 xH prog 25=true ∧
 zZ prog 25=false ∧
 isIf prog 25=false ∧
 zeroOf prog 25=some [.nil 6] ∧
 isInt prog 25=none ∧
 zC prog 27=2 ∧
 yd prog 27=true ∧
 known prog 27=true ∧
 prog.bytesOf 27=48 ∧
 yo prog 27=none ∧
 isStr prog 27=false ∧
 xH prog 27=false ∧
 zZ prog 27=false ∧
 isIf prog 27=false ∧
 uR prog 27=true ∧
 fOf prog 27 0=some (0,1,false) ∧
 fTy prog 27 0=24 ∧
 fOf prog 27 1=some (1,1,false) ∧
 fTy prog 27 1=25 ∧
 zeroOf prog 27=some [.nil 1,.nil 6] ∧
 isInt prog 27=none ∧
 zC prog 41=1 ∧
 yd prog 41=false ∧
 known prog 41=true ∧
 prog.bytesOf 41=24 ∧
 yo prog 41=some 44 ∧
 isStr prog 41=false ∧
 xH prog 41=true ∧
 zZ prog 41=false ∧
 isIf prog 41=false ∧
 zeroOf prog 41=some [.nil 4] ∧
 isInt prog 41=none ∧
 zC prog 44=4 ∧
 yd prog 44=true ∧
 known prog 44=true ∧
 prog.bytesOf 44=56 ∧
 yo prog 44=none ∧
 isStr prog 44=false ∧
 xH prog 44=false ∧
 zZ prog 44=false ∧
 isIf prog 44=false ∧
 uR prog 44=true ∧
 jG prog 44=false ∧
 Th prog 44=some [false,true,true,true] ∧
 fOf prog 44 0=some (0,1,false) ∧
 fTy prog 44 0=3 ∧
 fOf prog 44 1=some (1,1,false) ∧
 fTy prog 44 1=9 ∧
 fOf prog 44 2=some (2,1,false) ∧
 fTy prog 44 2=9 ∧
 fOf prog 44 3=some (3,1,false) ∧
 fTy prog 44 3=9 ∧
 zeroOf prog 44=some [.t (.int .i64 0),.t (.str []),.t (.str []),.t (.str [])] ∧
 isInt prog 44=none ∧
 zC prog 49=1 ∧
 yd prog 49=false ∧
 known prog 49=true ∧
 prog.bytesOf 49=24 ∧
 yo prog 49=some 105 ∧
 isStr prog 49=false ∧
 xH prog 49=true ∧
 zZ prog 49=false ∧
 isIf prog 49=false ∧
 zeroOf prog 49=some [.nil 2] ∧
 isInt prog 49=none ∧
 zC prog 51=6 ∧
 yd prog 51=true ∧
 known prog 51=true ∧
 prog.bytesOf 51=104 ∧
 yo prog 51=none ∧
 isStr prog 51=false ∧
 xH prog 51=false ∧
 zZ prog 51=false ∧
 isIf prog 51=false ∧
 uR prog 51=true ∧
 fOf prog 51 0=some (0,1,false) ∧
 fTy prog 51 0=9 ∧
 fOf prog 51 1=some (1,1,false) ∧
 fTy prog 51 1=9 ∧
 fOf prog 51 2=some (2,1,false) ∧
 fTy prog 51 2=9 ∧
 fOf prog 51 3=some (3,1,false) ∧
 fTy prog 51 3=49 ∧
 fOf prog 51 4=some (4,1,false) ∧
 fTy prog 51 4=4 ∧
 fOf prog 51 5=some (5,1,false) ∧
 fTy prog 51 5=24 ∧
 zeroOf prog 51=some [.t (.str []),.t (.str []),.t (.str []),.nil 2,.t (.bool false),.nil 1] ∧
 isInt prog 51=none ∧
 zC prog 66=4 ∧
 yd prog 66=true ∧
 known prog 66=true ∧
 prog.bytesOf 66=48 ∧
 yo prog 66=none ∧
 isStr prog 66=false ∧
 xH prog 66=false ∧
 zZ prog 66=false ∧
 isIf prog 66=false ∧
 uR prog 66=true ∧
 fOf prog 66 0=some (0,1,false) ∧
 fTy prog 66 0=3 ∧
 fOf prog 66 1=some (1,1,false) ∧
 fTy prog 66 1=3 ∧
 fOf prog 66 2=some (2,1,false) ∧
 fTy prog 66 2=3 ∧
 fOf prog 66 3=some (3,1,false) ∧
 fTy prog 66 3=24 ∧
 zeroOf prog 66=some [.t (.int .i64 0),.t (.int .i64 0),.t (.int .i64 0),.nil 1] ∧
 isInt prog 66=none ∧
 zC prog 71=1 ∧
 yd prog 71=false ∧
 known prog 71=true ∧
 prog.bytesOf 71=8 ∧
 yo prog 71=none ∧
 isStr prog 71=false ∧
 xH prog 71=false ∧
 zZ prog 71=false ∧
 isIf prog 71=false ∧
 zeroOf prog 71=some [.t .nilp] ∧
 isInt prog 71=none ∧
 zC prog 79=1 ∧
 yd prog 79=false ∧
 known prog 79=true ∧
 prog.bytesOf 79=8 ∧
 yo prog 79=none ∧
 isStr prog 79=false ∧
 xH prog 79=false ∧
 zZ prog 79=false ∧
 isIf prog 79=false ∧
 zeroOf prog 79=some [.t .nilf] ∧
 isInt prog 79=none ∧
 zC prog 82=1 ∧
 yd prog 82=false ∧
 known prog 82=true ∧
 prog.bytesOf 82=8 ∧
 yo prog 82=none ∧
 isStr prog 82=false ∧
 xH prog 82=false ∧
 zZ prog 82=false ∧
 isIf prog 82=false ∧
 zeroOf prog 82=some [.t .nilf] ∧
 isInt prog 82=none ∧
 zC prog 99=1 ∧
 yd prog 99=false ∧
 known prog 99=true ∧
 prog.bytesOf 99=8 ∧
 yo prog 99=none ∧
 isStr prog 99=false ∧
 xH prog 99=false ∧
 zZ prog 99=false ∧
 isIf prog 99=false ∧
 zeroOf prog 99=some [.t .nilf] ∧
 isInt prog 99=none ∧
 zC prog 105=2 ∧
 yd prog 105=true ∧
 known prog 105=true ∧
 prog.bytesOf 105=32 ∧
 yo prog 105=none ∧
 isStr prog 105=false ∧
 xH prog 105=false ∧
 zZ prog 105=false ∧
 isIf prog 105=false ∧
 uR prog 105=true ∧
 jG prog 105=true ∧
 nFs prog 105=2 ∧
 fOf prog 105 0=some (0,1,false) ∧
 fTy prog 105 0=9 ∧
 fOf prog 105 1=some (1,1,false) ∧
 fTy prog 105 1=9 ∧
 zeroOf prog 105=some [.t (.str []),.t (.str [])] ∧
 isInt prog 105=none ∧
 zC prog 116=1 ∧
 yd prog 116=false ∧
 known prog 116=true ∧
 prog.bytesOf 116=24 ∧
 yo prog 116=some 151 ∧
 isStr prog 116=false ∧
 xH prog 116=true ∧
 zZ prog 116=false ∧
 isIf prog 116=false ∧
 zeroOf prog 116=some [.nil 2] ∧
 isInt prog 116=none ∧
 zC prog 127=1 ∧
 yd prog 127=false ∧
 known prog 127=true ∧
 prog.bytesOf 127=24 ∧
 yo prog 127=some 3 ∧
 isStr prog 127=false ∧
 xH prog 127=true ∧
 zZ prog 127=false ∧
 isIf prog 127=false ∧
 zeroOf prog 127=some [.nil 1] ∧
 isInt prog 127=none ∧
 zC prog 129=3 ∧
 yd prog 129=true ∧
 known prog 129=true ∧
 prog.bytesOf 129=40 ∧
 yo prog 129=none ∧
 isStr prog 129=false ∧
 xH prog 129=false ∧
 zZ prog 129=false ∧
 isIf prog 129=false ∧
 uR prog 129=true ∧
 fOf prog 129 0=some (0,1,false) ∧
 fTy prog 129 0=22 ∧
 fOf prog 129 1=some (1,1,false) ∧
 fTy prog 129 1=3 ∧
 fOf prog 129 2=some (2,1,false) ∧
 fTy prog 129 2=3 ∧
 zeroOf prog 129=some [.nil 1,.t (.int .i64 0),.t (.int .i64 0)] ∧
 isInt prog 129=none ∧
 zC prog 151=2 ∧
 yd prog 151=true ∧
 known prog 151=true ∧
 prog.bytesOf 151=32 ∧
 yo prog 151=none ∧
 isStr prog 151=false ∧
 xH prog 151=false ∧
 zZ prog 151=false ∧
 isIf prog 151=false ∧
 uR prog 151=true ∧
 jG prog 151=true ∧
 nFs prog 151=2 ∧
 fOf prog 151 0=some (0,1,false) ∧
 fTy prog 151 0=9 ∧
 fOf prog 151 1=some (1,1,false) ∧
 fTy prog 151 1=9 ∧
 zeroOf prog 151=some [.t (.str []),.t (.str [])] ∧
 isInt prog 151=none ∧
 zC prog 157=1 ∧
 yd prog 157=false ∧
 known prog 157=true ∧
 prog.bytesOf 157=8 ∧
 yo prog 157=none ∧
 isStr prog 157=false ∧
 xH prog 157=false ∧
 zZ prog 157=false ∧
 isIf prog 157=false ∧
 zeroOf prog 157=some [.t .nilf] ∧
 isInt prog 157=none ∧
 zC prog 163=1 ∧
 yd prog 163=false ∧
 known prog 163=true ∧
 prog.bytesOf 163=16 ∧
 yo prog 163=none ∧
 isStr prog 163=false ∧
 xH prog 163=false ∧
 zZ prog 163=false ∧
 isIf prog 163=true ∧
 zeroOf prog 163=some [.t .nili] ∧
 isInt prog 163=none ∧
 zC prog 173=1 ∧
 yd prog 173=false ∧
 known prog 173=true ∧
 prog.bytesOf 173=24 ∧
 yo prog 173=some 25 ∧
 isStr prog 173=false ∧
 xH prog 173=true ∧
 zZ prog 173=false ∧
 isIf prog 173=false ∧
 zeroOf prog 173=some [.nil 1] ∧
 isInt prog 173=none ∧
 zC prog 175=1 ∧
 yd prog 175=false ∧
 known prog 175=true ∧
 prog.bytesOf 175=8 ∧
 yo prog 175=none ∧
 isStr prog 175=false ∧
 xH prog 175=false ∧
 zZ prog 175=false ∧
 isIf prog 175=false ∧
 zeroOf prog 175=some [.t (.int .u64 0)] ∧
 isInt prog 175=some .u64 ∧
 zC prog 198=1 ∧
 yd prog 198=false ∧
 known prog 198=true ∧
 prog.bytesOf 198=8 ∧
 yo prog 198=none ∧
 isStr prog 198=false ∧
 xH prog 198=false ∧
 zZ prog 198=false ∧
 isIf prog 198=false ∧
 zeroOf prog 198=some [.t .nilp] ∧
 isInt prog 198=none ∧
 zC prog 202=1 ∧
 yd prog 202=false ∧
 known prog 202=true ∧
 prog.bytesOf 202=8 ∧
 yo prog 202=none ∧
 isStr prog 202=false ∧
 xH prog 202=false ∧
 zZ prog 202=false ∧
 isIf prog 202=false ∧
 zeroOf prog 202=some [.t (.int .i64 0)] ∧
 isInt prog 202=some .i64 ∧
 zC prog 210=1 ∧
 yd prog 210=false ∧
 known prog 210=true ∧
 prog.bytesOf 210=4 ∧
 yo prog 210=none ∧
 isStr prog 210=false ∧
 xH prog 210=false ∧
 zZ prog 210=false ∧
 isIf prog 210=false ∧
 zeroOf prog 210=some [.t (.int .u32 0)] ∧
 isInt prog 210=some .u32 ∧
 zC prog 212=1 ∧
 yd prog 212=false ∧
 known prog 212=true ∧
 prog.bytesOf 212=8 ∧
 yo prog 212=none ∧
 isStr prog 212=false ∧
 xH prog 212=false ∧
 zZ prog 212=false ∧
 isIf prog 212=false ∧
 zeroOf prog 212=some [.t (.int .u64 0)] ∧
 isInt prog 212=some .u64 ∧
 zC prog 232=1 ∧
 yd prog 232=false ∧
 known prog 232=true ∧
 prog.bytesOf 232=8 ∧
 yo prog 232=none ∧
 isStr prog 232=false ∧
 xH prog 232=false ∧
 zZ prog 232=false ∧
 isIf prog 232=false ∧
 zeroOf prog 232=some [.t (.int .u64 0)] ∧
 isInt prog 232=some .u64 ∧
 zC prog 236=1 ∧
 yd prog 236=false ∧
 known prog 236=true ∧
 prog.bytesOf 236=8 ∧
 yo prog 236=none ∧
 isStr prog 236=false ∧
 xH prog 236=false ∧
 zZ prog 236=false ∧
 isIf prog 236=false ∧
 zeroOf prog 236=some [.t .nilp] ∧
 isInt prog 236=none ∧
 zC prog 250=1 ∧
 yd prog 250=false ∧
 known prog 250=true ∧
 prog.bytesOf 250=8 ∧
 yo prog 250=none ∧
 isStr prog 250=false ∧
 xH prog 250=false ∧
 zZ prog 250=false ∧
 isIf prog 250=false ∧
 zeroOf prog 250=some [.t .nilp] ∧
 isInt prog 250=none ∧
 zC prog 256=2 ∧
 yd prog 256=true ∧
 known prog 256=true ∧
 prog.bytesOf 256=2 ∧
 yo prog 256=none ∧
 isStr prog 256=false ∧
 xH prog 256=false ∧
 zZ prog 256=false ∧
 isIf prog 256=false ∧
 uR prog 256=true ∧
 jG prog 256=false ∧
 Th prog 256=some [false,false] ∧
 fOf prog 256 0=some (0,1,false) ∧
 fTy prog 256 0=5 ∧
 fOf prog 256 1=some (1,1,false) ∧
 fTy prog 256 1=5 ∧
 zeroOf prog 256=some [.t (.int .u8 0),.t (.int .u8 0)] ∧
 isInt prog 256=none:=by and_intros<;>kernel_rfl
end Go.Proofs.YtefkoljdebekdaaGreatDoor
/- The shelf's contract of slices.Grow at this program, laid by the kit's own tool. Conditions: none. -/
namespace Go.Proofs
open Go.Proofs.Tryz
open Go.Shelf
def Tryz.mE:Go.Shelf.Ren:=⟨fun|4=>203|n=>n,fun|22=>25|25=>51|3=>3|4=>4|9=>9|20=>20|0=>0|n=>n,fun|n=>n⟩
theorem Tryz.Yu:Go.Proofs.Lays8.n4 prog Tryz.mE:={
 mixed:=by kernel_rfl
 f4:=⟨Tryz.f203.name,by decide,Tryz.func203.trans (congrArg some (by kernel_rfl))⟩
 t0:=Tryz.underlying0
 a0:=Tryz.isAgg0
 z0:=Tryz.sizeOf0
 v0:=Tryz.zeroValue0
 t3:=Tryz.underlying3
 a3:=Tryz.isAgg3
 z3:=Tryz.sizeOf3
 v3:=Tryz.zeroValue3
 t4:=Tryz.underlying4
 a4:=Tryz.isAgg4
 z4:=Tryz.sizeOf4
 v4:=Tryz.zeroValue4
 t9:=Tryz.underlying9
 a9:=Tryz.isAgg9
 z9:=Tryz.sizeOf9
 v9:=Tryz.zeroValue9
 t20:=Tryz.underlying20
 a20:=Tryz.isAgg20
 z20:=Tryz.sizeOf20
 v20:=Tryz.zeroValue20
 t22:=Tryz.underlying25
 a22:=Tryz.isAgg25
 z22:=Tryz.sizeOf25
 v22:=Tryz.zeroValue25 }
end Go.Proofs
/- slices.Grow at packs, out of nothing, by the kit's own contract: a row without elements. Conditions: those of each lemma. -/
namespace Go.Proofs.YtefkoljdebekdaaGreatDoor
open Go.Proofs.Tryz
open E
def Xg (args:List V)(h:Heap):Option (V×Heap) :=
 match args,h with
 | [.nil s,.t (.int .i64 n)],[]=>if s=6∧0≤n∧n≤4194304 then some (.sl 0 0 0 none,[.ts 6 []]) else none
 | _,_=>none
theorem Se (W0 : World) : rJ prog W0 203 Xg := by
 intro args h v h' hv;unfold Xg at hv
 split at hv
 · rename_i s n
   split at hv
   · rename_i hn;obtain⟨rfl,hn0,hn1⟩:=hn
     cases hv;refine⟨⟨Tryz.f203,func203,by kernel_rfl,by kernel_rfl⟩,fun Ow w F ρ us hB hS hO hu=>?_⟩;obtain⟨us⟩:=us
     change RVs w F ρ us _ at hu
     cases hu with
     | cons h1 h2 =>
     cases h2 with
     | cons h3 h4 =>
     cases h4
     cases h1;have h3':=tw h3;subst h3';obtain⟨k,rfl⟩:=Int.eq_ofNat_of_zero_le hn0;have hk:k≤4194304:=by omega
     rcases Nat.eq_zero_or_pos k with h0|hpos
     · subst h0;refine (Any8.slices_Grow_room Tryz.Yu none 0 0 0 w (Nat.le_refl _) (by decide) (by decide) (Nat.le_refl _)).mono fun e w' hp=>?_
       obtain⟨rfl,rfl⟩:=hp;obtain⟨ρ',k1,k2,k3⟩:=jh hS hO.op 6;rw[hO.n]at k1 k3;exact⟨_,F,ρ',rfl,.slP 0 none _ k3 (.inl rfl),k1,k2.forget (Ext.refl _),fun r l hr=>by simp at hr⟩
     · obtain⟨inf,z,i1,i2,i3,i4,i5⟩:=wT (P:=prog) (t:=51) (w:=w) (F:=F) (ρ:=ρ) (zs:=[.t (.str []),.t (.str []),.t (.str []),.nil 2,.t (.bool false),.nil 1]) (by kernel_rfl);have hsz:inf.size=6:=by
        have:prog.cellsOf 51=6:=by kernel_rfl
        simpa [Program.cellsOf,i1] using this
       have hby:inf.bytes≤1024:=by
        have:prog.bytesOf 51≤1024:=by
         have e:decide (prog.bytesOf 51≤1024)=true:=by kernel_rfl
         exact of_decide_eq_true e
        simpa [Program.bytesOf,i1] using this
       have hbb:(0+k)*inf.bytes≤140737488355328:=by
        have:=Nat.mul_le_mul (show 0+k≤4194304 by omega) hby;omega
       refine (Any8.slices_Grow_grow Tryz.Yu inf z i1 i2 (by omega) none 0 0 k [] w (Nat.le_refl _) (by omega) hbb (by omega) (by simp) (fun _=>rfl) (fun a ha=>by cases ha)).mono fun e w' hp=>?_
       rw[show Tryz.mE.t 25=51 from rfl]at hp;obtain⟨rfl,rfl⟩:=hp;obtain⟨hS1,hN1⟩:=rn (w':=w.drew) hS rfl rfl rfl (Nat.le_refl _) (fun _ _=>rfl);have hge:0+k≤grownCap w (0+k) 0 51:=grownCap_ge w _ _ _;have hO1:OkC Ow w.drew:=⟨hO.blk,hO.z,hO.n⟩;generalize hG:grownCap w (0+k) 0 51=G at *;have hsize:(#[]++Builtin.zeroCells z.cells (0+k - 0)++Builtin.zeroCells z.cells (G - (0+k)):Array Value).size=G*6:=by
        simp only[Builtin.zeroCells,Array.size_append,Array.size_map,Array.size_range,i3,hsz,Array.size_empty];rw[Nat.zero_add,Nat.sub_zero,← Nat.add_mul]
        congr 1;omega
       obtain⟨ρ',n1,n2,n3⟩:=jy hS1 hO1.op (#[]++Builtin.zeroCells z.cells (0+k - 0)++Builtin.zeroCells z.cells (G - (0+k))) 51 6 0 (.ts 6 []) (fun ρ' hρ hL hF hOw hA=>.inl ⟨_,hL,rfl,⟨rfl,fun e he=>by simp at he,_,_,_,ny w.drew _,rfl,fun k hk=>by simp,by simp,fun i j cs x hi=>by simp at hi⟩,hF,hOw⟩) trivial;rw[hO1.n]at n1 n3;refine⟨_,F,ρ',rfl,?_,n1,(hN1.trans n2).forget (Ext.refl _),fun r l hr=>by simp at hr⟩;refine .sl 0 0 0 none _ _ G n3 (.inl (by simp)) (Nat.zero_le _) (Nat.le_refl _) (fun _=>Nat.zero_le _) (fun k hk=>by cases hk) fun _=>?_
       show 0+(0+G)*6≤_
       rw[hsize,Nat.zero_add,Nat.zero_add];exact Nat.le_refl _
   · cases hv
 · cases hv
end Go.Proofs.YtefkoljdebekdaaGreatDoor
/- Which slots the loops keep: tables written by a program of mine (live.py). Conditions: none. -/
namespace Go.Proofs.YtefkoljdebekdaaGreatDoor
open Go.Proofs.Tryz
def T4:List (Nat×Nat×List Nat)→Nat→Nat→List Nat
 | [],_,_=>[]
 | (f',p',l)::r,f,p=>if f=f'∧p=p' then l else T4 r f p
def S1:List (Nat×Nat×List Nat):=[
 (4,2042,[3,4,5,6,8]),
 (4,16378,[3,4,5,12,13]),
 (15,58,[0,1,5]),
 (21,26,[1,3]),
 (22,26,[1,6,7,8]),
 (24,122,[2,3,5,27,28,29]),
 (24,250,[3,5,121,122,123]),
 (24,125342,[2,3,5,7,10,11,27,28,29,49,50]),
 (25,250,[2,3,5,6,7]),
 (25,506,[2,3,5,8]),
 (30,58,[2,3,5]),
 (44,58,[1,5,10,11,12]),
 (47,26,[2,3,24,25,26]),
 (47,122,[2,3,56,57]),
 (48,58,[0,3,4]),
 (56,122,[0,1,5,6]),
 (65,58,[0,1,12,13]),
 (70,58,[1,2,3,4]),
 (75,58,[1,2,4,5,6]),
 (75,122,[1,2,4,5,7]),
 (75,125242,[1,2,4,5,7,8,9]),
 (76,58,[0,1,5]),
 (77,26,[1,2,5]),
 (81,26,[0,1,7,8]),
 (82,26,[1,3]),
 (83,26,[1,2,5]),
 (85,26,[1,2,7,8,9]),
 (87,58,[5,14,15,16]),
 (91,58,[2,3,5,6]),
 (91,122,[3,5,7]),
 (92,250,[2,7,8,9,10]),
 (93,58,[2,3,5]),
 (97,26,[0,1,7,8]),
 (109,58,[3,7,8,9]),
 (112,58,[0,3,10,11,12]),
 (115,58,[0,3,4]),
 (115,59706,[0,3,4,5,6]),
 (116,26,[0,3]),
 (120,28,[0,1,5]),
 (121,58,[1,2,5,6]),
 (123,58,[0,3,4]),
 (123,29852,[0,3,4,5,7]),
 (124,58,[2,3,5,6]),
 (124,250,[2,3,7]),
 (133,122,[0,2,3,4,5]),
 (133,250,[0,2,3,7]),
 (133,32034,[0,2,3,7,8]),
 (140,26,[0,1,7,8]),
 (145,58,[0,1,12,13]),
 (148,26,[0,1,5]),
 (152,26,[0,5,6,7]),
 (153,58,[0,4,5,6]),
 (153,1962,[4,5,7,8]),
 (154,58,[0,3,9,10,11]),
 (154,250,[6,25,26,27]),
 (157,58,[0,1,5,6]),
 (160,122,[1,3,4]),
 (167,58,[0,3]),
 (167,59690,[0,3,4,5]),
 (172,26,[0,1,7,8]),
 (179,122,[0,1,5,6,7]),
 (182,26,[0,1,5]),
 (183,58,[0,3,4]),
 (187,2044,[0,1,2,3,9,10]),
 (190,26,[1,13,14,15]),
 (190,58,[1,24,25,26]),
 (191,250,[0,1,5,39,40,41]),
 (191,4090,[1,8,63,64,65]),
 (196,28,[2,3,4,5]),
 (202,122,[0,3,4,5]),
 (204,26,[1,3]),
 (205,124,[0,3,4]),
 (206,14,[0,1,2,3,8,9]),
 (208,14,[0,1,2,3,4,10,11]),
 (221,2044,[0,1,5,6,7,8,9,10]),
 (222,250,[0,1,6,7]),
 (223,62,[0,1,5]),
 (225,3770,[5,6,47,48,49]),
 (233,12,[0,1]),
 (241,28,[0,1,5]),
 (241,232174,[0,1,5,6,7,8]),
 (241,3714990,[0,1,5,9,10,11]),
 (242,26,[0,3]),
 (243,6,[0,1,2,6]),
 (243,402,[0,1,2,6,7]),
 (244,122,[0,6,7,8,9]),
 (244,126,[0,6,7,10]),
 (245,238,[0,1,6,7,8,9]),
 (247,14,[0,6,7]),
 (248,58,[0,1,2,7,8]),
 (248,3728,[0,1,2,7,8]),
 (248,477674,[0,1,2,7,8,9]),
 (248,477690,[0,1,2,7,8,10]),
 (250,60,[0,1,9,10]),
 (250,960,[0,1,9,10]),
 (250,1924,[0,1,9,10]),
 (251,60,[0,1,10,11]),
 (251,124,[0,1,10,11]),
 (251,4092,[0,1,10,11]),
 (251,65472,[0,1,10,11]),
 (251,130948,[0,1,10,11]),
 (254,6,[0,1,2,3,8]),
 (254,402,[0,1,2,3,8,9]),
 (255,122,[0,3,8,9,10,11]),
 (255,126,[0,3,8,9,12]),
 (256,238,[0,1,8,9,10,11]),
 (258,14,[0,8,9]),
 (259,58,[0,1,2,3,9,10]),
 (259,3728,[0,1,2,3,9,10]),
 (259,477674,[0,1,2,3,9,10,11]),
 (259,477690,[0,1,2,3,9,10,12]),
 (260,60,[0,1,4,11,12]),
 (260,960,[0,1,4,11,12]),
 (260,1924,[0,1,4,11,12]),
 (261,60,[0,1,4,12,13]),
 (261,124,[0,1,4,12,13]),
 (261,4092,[0,1,4,12,13]),
 (261,65472,[0,1,4,12,13]),
 (261,130948,[0,1,4,12,13]),
 (268,250,[0,1,5,6,7,8,9]),
 (268,1018,[0,1,5,6,7,8,10]),
 (269,26,[2,4]),
 (286,26,[0,3]),
 (287,6,[0,2,3,8]),
 (293,6,[0,2,3,4,10]),
 (297,58,[0,4,5]),
 (297,250,[4,6,7,8]),
 (299,32762,[1,8,9,10,11,12,13,99,100,101]),
 (309,508,[0,3,4,5]),
 (312,12,[0,1,4]),
 (313,4060,[0,1,3,4,10,11,12,13,17]),
 (313,16220,[0,1,3,4,10,11,12,13,14,15,16])]
def TJ:List (Nat×Nat×List Nat):=[
 (4,2042,[2,3,4,5]),
 (4,16378,[5,12]),
 (15,58,[4]),
 (21,26,[1,2]),
 (22,26,[1,2]),
 (24,122,[2,3,5]),
 (24,250,[5]),
 (24,125342,[2,3,5,27,28,29]),
 (25,250,[2,3,5]),
 (25,506,[5]),
 (30,58,[4]),
 (44,58,[5]),
 (47,26,[2,3,4]),
 (47,122,[2,3,4]),
 (48,58,[0,3]),
 (56,122,[0,5]),
 (65,58,[4]),
 (70,58,[2,3]),
 (75,58,[1,2,4,5]),
 (75,122,[4,5]),
 (75,125242,[1,2,4,5,7,8]),
 (76,58,[4]),
 (77,26,[4]),
 (81,26,[4]),
 (82,26,[1,2]),
 (83,26,[4]),
 (85,26,[4]),
 (87,58,[5]),
 (91,58,[3,5]),
 (91,122,[5]),
 (92,250,[7]),
 (93,58,[4]),
 (97,26,[4]),
 (109,58,[3]),
 (112,58,[0,2]),
 (115,58,[0,2]),
 (115,59706,[0,2,3,4,5]),
 (116,26,[0,2]),
 (120,28,[0,1,5]),
 (121,58,[5]),
 (123,58,[3]),
 (123,29852,[0,3,4,7]),
 (124,58,[2,3,4]),
 (124,250,[2,3,4]),
 (133,122,[0,2,3]),
 (133,250,[2,3]),
 (133,32034,[0,2,3,7]),
 (140,26,[4]),
 (145,58,[4]),
 (148,26,[4]),
 (152,26,[2]),
 (153,58,[0,4,5]),
 (153,1962,[4,5,7]),
 (154,58,[0,3]),
 (154,250,[6]),
 (157,58,[5]),
 (160,122,[3]),
 (167,58,[0,2]),
 (167,59690,[0,3]),
 (172,26,[4]),
 (179,122,[0,5,6]),
 (182,26,[4]),
 (183,58,[0,2,3]),
 (187,2044,[0,9,10]),
 (190,26,[1,2]),
 (190,58,[1,2]),
 (191,250,[0,1,5]),
 (191,4090,[8]),
 (196,28,[2,3,4,5]),
 (202,122,[3]),
 (204,26,[1,2]),
 (205,124,[0,3]),
 (206,14,[]),
 (208,14,[]),
 (221,2044,[4]),
 (222,250,[0,1,6]),
 (223,62,[4]),
 (225,3770,[2,3,5,6]),
 (233,12,[0]),
 (241,28,[1,5]),
 (241,232174,[0,1,5]),
 (241,3714990,[0,1,5]),
 (242,26,[0,2]),
 (243,6,[]),
 (243,402,[0,1,2,6]),
 (244,122,[0,6,7,8]),
 (244,126,[]),
 (245,238,[]),
 (247,14,[]),
 (248,58,[6]),
 (248,3728,[0,1,2,7,8]),
 (248,477674,[0,1,2,7,8]),
 (248,477690,[0,1,2,7,8]),
 (250,60,[9]),
 (250,960,[0,1,9,10]),
 (250,1924,[0,1,9,10]),
 (251,60,[0,1,10,11]),
 (251,124,[0,1,10,11]),
 (251,4092,[0,1,11]),
 (251,65472,[0,1,10,11]),
 (251,130948,[0,1,10,11]),
 (254,6,[]),
 (254,402,[0,1,2,3,8]),
 (255,122,[0,3,8,9,10]),
 (255,126,[]),
 (256,238,[]),
 (258,14,[]),
 (259,58,[8]),
 (259,3728,[0,1,2,3,9,10]),
 (259,477674,[0,1,2,3,9,10]),
 (259,477690,[0,1,2,3,9,10]),
 (260,60,[11]),
 (260,960,[0,1,4,11,12]),
 (260,1924,[0,1,4,11,12]),
 (261,60,[0,1,4,12,13]),
 (261,124,[0,1,4,12,13]),
 (261,4092,[0,1,13]),
 (261,65472,[0,1,4,12,13]),
 (261,130948,[0,1,4,12,13]),
 (268,250,[0,1,5,6,7,8]),
 (268,1018,[4]),
 (269,26,[2]),
 (286,26,[0,2]),
 (287,6,[]),
 (293,6,[]),
 (297,58,[0,4]),
 (297,250,[4,6]),
 (299,32762,[6,7,9,12,13]),
 (309,508,[2,3]),
 (312,12,[0,1,4]),
 (313,4060,[0,1,3,4,10,11,12,13]),
 (313,16220,[0,1,3,4,10,11,12,13])]
def zL (f p:Nat):List Nat:=T4 S1 f p
def zK (f p:Nat):List Nat:=T4 TJ f p
theorem LTS:zL 4 2042=[3,4,5,6,8] ∧
 zK 4 2042=[2,3,4,5] ∧
 zL 4 16378=[3,4,5,12,13] ∧
 zK 4 16378=[5,12] ∧
 zL 15 58=[0,1,5] ∧
 zK 15 58=[4] ∧
 zL 21 26=[1,3] ∧
 zK 21 26=[1,2] ∧
 zL 22 26=[1,6,7,8] ∧
 zK 22 26=[1,2] ∧
 zL 24 122=[2,3,5,27,28,29] ∧
 zK 24 122=[2,3,5] ∧
 zL 24 250=[3,5,121,122,123] ∧
 zK 24 250=[5] ∧
 zL 24 125342=[2,3,5,7,10,11,27,28,29,49,50] ∧
 zK 24 125342=[2,3,5,27,28,29] ∧
 zL 25 250=[2,3,5,6,7] ∧
 zK 25 250=[2,3,5] ∧
 zL 25 506=[2,3,5,8] ∧
 zK 25 506=[5] ∧
 zL 30 58=[2,3,5] ∧
 zK 30 58=[4] ∧
 zL 44 58=[1,5,10,11,12] ∧
 zK 44 58=[5] ∧
 zL 47 26=[2,3,24,25,26] ∧
 zK 47 26=[2,3,4] ∧
 zL 47 122=[2,3,56,57] ∧
 zK 47 122=[2,3,4] ∧
 zL 48 58=[0,3,4] ∧
 zK 48 58=[0,3] ∧
 zL 56 122=[0,1,5,6] ∧
 zK 56 122=[0,5] ∧
 zL 65 58=[0,1,12,13] ∧
 zK 65 58=[4] ∧
 zL 70 58=[1,2,3,4] ∧
 zK 70 58=[2,3] ∧
 zL 75 58=[1,2,4,5,6] ∧
 zK 75 58=[1,2,4,5] ∧
 zL 75 122=[1,2,4,5,7] ∧
 zK 75 122=[4,5] ∧
 zL 75 125242=[1,2,4,5,7,8,9] ∧
 zK 75 125242=[1,2,4,5,7,8] ∧
 zL 76 58=[0,1,5] ∧
 zK 76 58=[4] ∧
 zL 77 26=[1,2,5] ∧
 zK 77 26=[4] ∧
 zL 81 26=[0,1,7,8] ∧
 zK 81 26=[4] ∧
 zL 82 26=[1,3] ∧
 zK 82 26=[1,2] ∧
 zL 83 26=[1,2,5] ∧
 zK 83 26=[4] ∧
 zL 85 26=[1,2,7,8,9] ∧
 zK 85 26=[4] ∧
 zL 87 58=[5,14,15,16] ∧
 zK 87 58=[5] ∧
 zL 91 58=[2,3,5,6] ∧
 zK 91 58=[3,5] ∧
 zL 91 122=[3,5,7] ∧
 zK 91 122=[5] ∧
 zL 92 250=[2,7,8,9,10] ∧
 zK 92 250=[7] ∧
 zL 93 58=[2,3,5] ∧
 zK 93 58=[4] ∧
 zL 97 26=[0,1,7,8] ∧
 zK 97 26=[4] ∧
 zL 109 58=[3,7,8,9] ∧
 zK 109 58=[3] ∧
 zL 112 58=[0,3,10,11,12] ∧
 zK 112 58=[0,2] ∧
 zL 115 58=[0,3,4] ∧
 zK 115 58=[0,2] ∧
 zL 115 59706=[0,3,4,5,6] ∧
 zK 115 59706=[0,2,3,4,5] ∧
 zL 116 26=[0,3] ∧
 zK 116 26=[0,2] ∧
 zL 120 28=[0,1,5] ∧
 zK 120 28=[0,1,5] ∧
 zL 121 58=[1,2,5,6] ∧
 zK 121 58=[5] ∧
 zL 123 58=[0,3,4] ∧
 zK 123 58=[3] ∧
 zL 123 29852=[0,3,4,5,7] ∧
 zK 123 29852=[0,3,4,7] ∧
 zL 124 58=[2,3,5,6] ∧
 zK 124 58=[2,3,4] ∧
 zL 124 250=[2,3,7] ∧
 zK 124 250=[2,3,4] ∧
 zL 133 122=[0,2,3,4,5] ∧
 zK 133 122=[0,2,3] ∧
 zL 133 250=[0,2,3,7] ∧
 zK 133 250=[2,3] ∧
 zL 133 32034=[0,2,3,7,8] ∧
 zK 133 32034=[0,2,3,7] ∧
 zL 140 26=[0,1,7,8] ∧
 zK 140 26=[4] ∧
 zL 145 58=[0,1,12,13] ∧
 zK 145 58=[4] ∧
 zL 148 26=[0,1,5] ∧
 zK 148 26=[4] ∧
 zL 152 26=[0,5,6,7] ∧
 zK 152 26=[2] ∧
 zL 153 58=[0,4,5,6] ∧
 zK 153 58=[0,4,5] ∧
 zL 153 1962=[4,5,7,8] ∧
 zK 153 1962=[4,5,7] ∧
 zL 154 58=[0,3,9,10,11] ∧
 zK 154 58=[0,3] ∧
 zL 154 250=[6,25,26,27] ∧
 zK 154 250=[6] ∧
 zL 157 58=[0,1,5,6] ∧
 zK 157 58=[5] ∧
 zL 160 122=[1,3,4] ∧
 zK 160 122=[3] ∧
 zL 167 58=[0,3] ∧
 zK 167 58=[0,2] ∧
 zL 167 59690=[0,3,4,5] ∧
 zK 167 59690=[0,3] ∧
 zL 172 26=[0,1,7,8] ∧
 zK 172 26=[4] ∧
 zL 179 122=[0,1,5,6,7] ∧
 zK 179 122=[0,5,6] ∧
 zL 182 26=[0,1,5] ∧
 zK 182 26=[4] ∧
 zL 183 58=[0,3,4] ∧
 zK 183 58=[0,2,3] ∧
 zL 187 2044=[0,1,2,3,9,10] ∧
 zK 187 2044=[0,9,10] ∧
 zL 190 26=[1,13,14,15] ∧
 zK 190 26=[1,2] ∧
 zL 190 58=[1,24,25,26] ∧
 zK 190 58=[1,2] ∧
 zL 191 250=[0,1,5,39,40,41] ∧
 zK 191 250=[0,1,5] ∧
 zL 191 4090=[1,8,63,64,65] ∧
 zK 191 4090=[8] ∧
 zL 196 28=[2,3,4,5] ∧
 zK 196 28=[2,3,4,5] ∧
 zL 202 122=[0,3,4,5] ∧
 zK 202 122=[3] ∧
 zL 204 26=[1,3] ∧
 zK 204 26=[1,2] ∧
 zL 205 124=[0,3,4] ∧
 zK 205 124=[0,3] ∧
 zL 206 14=[0,1,2,3,8,9] ∧
 zK 206 14=[] ∧
 zL 208 14=[0,1,2,3,4,10,11] ∧
 zK 208 14=[] ∧
 zL 221 2044=[0,1,5,6,7,8,9,10] ∧
 zK 221 2044=[4] ∧
 zL 222 250=[0,1,6,7] ∧
 zK 222 250=[0,1,6] ∧
 zL 223 62=[0,1,5] ∧
 zK 223 62=[4] ∧
 zL 225 3770=[5,6,47,48,49] ∧
 zK 225 3770=[2,3,5,6] ∧
 zL 233 12=[0,1] ∧
 zK 233 12=[0] ∧
 zL 241 28=[0,1,5] ∧
 zK 241 28=[1,5] ∧
 zL 241 232174=[0,1,5,6,7,8] ∧
 zK 241 232174=[0,1,5] ∧
 zL 241 3714990=[0,1,5,9,10,11] ∧
 zK 241 3714990=[0,1,5] ∧
 zL 242 26=[0,3] ∧
 zK 242 26=[0,2] ∧
 zL 243 6=[0,1,2,6] ∧
 zK 243 6=[] ∧
 zL 243 402=[0,1,2,6,7] ∧
 zK 243 402=[0,1,2,6] ∧
 zL 244 122=[0,6,7,8,9] ∧
 zK 244 122=[0,6,7,8] ∧
 zL 244 126=[0,6,7,10] ∧
 zK 244 126=[] ∧
 zL 245 238=[0,1,6,7,8,9] ∧
 zK 245 238=[] ∧
 zL 247 14=[0,6,7] ∧
 zK 247 14=[] ∧
 zL 248 58=[0,1,2,7,8] ∧
 zK 248 58=[6] ∧
 zL 248 3728=[0,1,2,7,8] ∧
 zK 248 3728=[0,1,2,7,8] ∧
 zL 248 477674=[0,1,2,7,8,9] ∧
 zK 248 477674=[0,1,2,7,8] ∧
 zL 248 477690=[0,1,2,7,8,10] ∧
 zK 248 477690=[0,1,2,7,8] ∧
 zL 250 60=[0,1,9,10] ∧
 zK 250 60=[9] ∧
 zL 250 960=[0,1,9,10] ∧
 zK 250 960=[0,1,9,10] ∧
 zL 250 1924=[0,1,9,10] ∧
 zK 250 1924=[0,1,9,10] ∧
 zL 251 60=[0,1,10,11] ∧
 zK 251 60=[0,1,10,11] ∧
 zL 251 124=[0,1,10,11] ∧
 zK 251 124=[0,1,10,11] ∧
 zL 251 4092=[0,1,10,11] ∧
 zK 251 4092=[0,1,11] ∧
 zL 251 65472=[0,1,10,11] ∧
 zK 251 65472=[0,1,10,11] ∧
 zL 251 130948=[0,1,10,11] ∧
 zK 251 130948=[0,1,10,11] ∧
 zL 254 6=[0,1,2,3,8] ∧
 zK 254 6=[] ∧
 zL 254 402=[0,1,2,3,8,9] ∧
 zK 254 402=[0,1,2,3,8] ∧
 zL 255 122=[0,3,8,9,10,11] ∧
 zK 255 122=[0,3,8,9,10] ∧
 zL 255 126=[0,3,8,9,12] ∧
 zK 255 126=[] ∧
 zL 256 238=[0,1,8,9,10,11] ∧
 zK 256 238=[] ∧
 zL 258 14=[0,8,9] ∧
 zK 258 14=[] ∧
 zL 259 58=[0,1,2,3,9,10] ∧
 zK 259 58=[8] ∧
 zL 259 3728=[0,1,2,3,9,10] ∧
 zK 259 3728=[0,1,2,3,9,10] ∧
 zL 259 477674=[0,1,2,3,9,10,11] ∧
 zK 259 477674=[0,1,2,3,9,10] ∧
 zL 259 477690=[0,1,2,3,9,10,12] ∧
 zK 259 477690=[0,1,2,3,9,10] ∧
 zL 260 60=[0,1,4,11,12] ∧
 zK 260 60=[11] ∧
 zL 260 960=[0,1,4,11,12] ∧
 zK 260 960=[0,1,4,11,12] ∧
 zL 260 1924=[0,1,4,11,12] ∧
 zK 260 1924=[0,1,4,11,12] ∧
 zL 261 60=[0,1,4,12,13] ∧
 zK 261 60=[0,1,4,12,13] ∧
 zL 261 124=[0,1,4,12,13] ∧
 zK 261 124=[0,1,4,12,13] ∧
 zL 261 4092=[0,1,4,12,13] ∧
 zK 261 4092=[0,1,13] ∧
 zL 261 65472=[0,1,4,12,13] ∧
 zK 261 65472=[0,1,4,12,13] ∧
 zL 261 130948=[0,1,4,12,13] ∧
 zK 261 130948=[0,1,4,12,13] ∧
 zL 268 250=[0,1,5,6,7,8,9] ∧
 zK 268 250=[0,1,5,6,7,8] ∧
 zL 268 1018=[0,1,5,6,7,8,10] ∧
 zK 268 1018=[4] ∧
 zL 269 26=[2,4] ∧
 zK 269 26=[2] ∧
 zL 286 26=[0,3] ∧
 zK 286 26=[0,2] ∧
 zL 287 6=[0,2,3,8] ∧
 zK 287 6=[] ∧
 zL 293 6=[0,2,3,4,10] ∧
 zK 293 6=[] ∧
 zL 297 58=[0,4,5] ∧
 zK 297 58=[0,4] ∧
 zL 297 250=[4,6,7,8] ∧
 zK 297 250=[4,6] ∧
 zL 299 32762=[1,8,9,10,11,12,13,99,100,101] ∧
 zK 299 32762=[6,7,9,12,13] ∧
 zL 309 508=[0,3,4,5] ∧
 zK 309 508=[2,3] ∧
 zL 312 12=[0,1,4] ∧
 zK 312 12=[0,1,4] ∧
 zL 313 4060=[0,1,3,4,10,11,12,13,17] ∧
 zK 313 4060=[0,1,3,4,10,11,12,13] ∧
 zL 313 16220=[0,1,3,4,10,11,12,13,14,15,16] ∧
 zK 313 16220=[0,1,3,4,10,11,12,13]:=by and_intros<;>kernel_rfl
end Go.Proofs.YtefkoljdebekdaaGreatDoor
/- What slices.Clone answers where its answer is to be written: a row of its own. Conditions: those of each lemma. -/
namespace Go.Proofs.YtefkoljdebekdaaGreatDoor
open Go.Proofs.Tryz
open E
namespace Z5
open Go.Proofs.Tryz
def pmT (_ _:Nat):PM:=.pure
noncomputable def pol:Pol:=bQ prog pmT zL zK (fun _=>true) (fun _ _=>none)
theorem jx:∀ f fn c,pol.no f=false→prog.funcs[f]? = some fn→fn.body=some c→xn (oQ prog pol f) fn.ntmps c=true:=dU
def nU (_:Nat):Bool:=false
def ghT (_ _:Nat):List Gh:=[]
def dmT (_ _:Nat):Bool:=false
theorem DRW:∀ (rc:Rec) (f m p n:Nat) (fs:List Fr) (k:rI) (e:Env) (h:Heap) (l:List Oper),goC ⟨prog,pol,rc,f,m⟩ (.region n l.toArray true) p fs k e h=goD ⟨prog,pol,rc,f,m⟩ (l.all (ym pol f)) (nU f&&dmT f n) (dmT f (n+1000)) l fs k e (ghH (ghT f n) e h):=fun _ _ _ _ _ _ _ _ _ _=>jf _ _ _ _ _ _ _ _ rfl
theorem LVS:∀ f p,pol.live f p=zL f p:=fun _ _=>rfl
theorem OVS:∀ f p,pol.outs f p=zK f p:=fun _ _=>rfl
theorem PMS:∀ f d,pol.pm f d=pmT f d:=fun _ _=>rfl
theorem OWS:∀ f,pol.own f=nU f:=fun _=>rfl
theorem DMS:∀ f n,pol.dm f n=dmT f n:=fun _ _=>rfl
theorem GHS:∀ f n,pol.gh f n=ghT f n:=fun _ _=>rfl
theorem GS:type_of% @LVS∧type_of% @OVS∧type_of% @LTS∧type_of% @TYS∧type_of% @PMS∧type_of% @OWS∧type_of% @GHS∧type_of% @DMS∧type_of% @pmT.eq_1∧type_of% @nU.eq_1∧type_of% @ghT.eq_1∧type_of% @dmT.eq_1:=⟨@LVS,@OVS,@LTS,@TYS,@PMS,@OWS,@GHS,@DMS,@pmT.eq_1,@nU.eq_1,@ghT.eq_1,@dmT.eq_1⟩
theorem QY (W0:World):l0 prog W0 pol:=⟨fun g args v hv=>(by cases hv),fun g args h v h' hv=>(by cases hv)⟩
end Z5
def jB (sz:Nat)(args:List V)(h:Heap):Option (V×Heap) :=
 match args,h with
 | [.t (.list s es)],[]=>if s=sz∧es.length≤4194304 then some (.sl 0 0 es.length none,[.ts sz es]) else none
 | _,_=>none
theorem W2 (W0 : World) (g sz : Nat) (ht : EV prog Z5.pol (.callO false g [.t (.nlist true sz [])] []) = some (.call (.nil sz) []))
 (hf:∀ es:List (List T),es.length≤4194304→EV prog Z5.pol (.callO false g [.t (.nlist false sz es)] [])=some (.call (.sl 0 0 es.length none) [.ts sz es])):rJ prog W0 g (jB sz):=by
 intro args h v h' hv;unfold jB at hv
 split at hv
 · rename_i s es
   split at hv
   · rename_i hl;obtain⟨rfl,hl⟩:=hl
     cases hv;refine⟨(jv (Z5.QY W0) Z5.jx ht).1,fun Ow w F ρ us hB hS hO hu=>?_⟩;obtain⟨us⟩:=us
     change RVs w F ρ us _ at hu
     cases hu with
     | cons h1 h2 =>
     cases h2
     cases h1 with
     | t u x hx =>
     have hx0:=hx
     cases hx with
     | list a n c sz es g' hn hc h0 hz hr =>
     cases ha:a.isNone with
     | false =>
      exact (jv (Z5.QY W0) Z5.jx (hf es hl)).2 Ow w F ρ _ hB hS hO (.cons (.t _ _ (.nlist _ _ _ _ _ _ ha hx0)) .nil)
     | true =>
      have hes:es=[]:=by
       cases es with
       | nil=>rfl
       | cons e r =>
        obtain⟨b,o,e1,_⟩:=h0 (by simp at hn;omega);rw[e1]at ha;cases ha
      subst hes;refine ((jv (Z5.QY W0) Z5.jx ht).2 Ow w F ρ _ hB hS hO (.cons (.t _ _ (.nlist _ _ _ _ _ _ ha hx0)) .nil)).mono fun e w' hp=>?_
      obtain⟨u,F',ρ',e1,e2,e3,e4,e5⟩:=hp
      cases e2 with
      | nil _ =>
      refine⟨_,F',fun r=>if r=0 then some none else ρ' r,e1,.slP 0 none _ (by simp) (.inl rfl),⟨?_,?_,e3.fsz,?_,⟨fun _ _ _ _=>False,fun r i j x ho=>?_,fun _ _ _ _ h=>h.elim,fun _ _ _ _ _ _ _ h=>h.elim,fun _ _ _ _ _ _ _ h=>h.elim⟩⟩,e4,fun r l hr=>by simp at hr⟩
      · intro r b hr
        match r with
        | 0=>simp at hr;subst hr;exact .inr ⟨by simp,rfl⟩
        | r+1=>simp at hr
      · intro r r' b b' L L' hr hr' _ _ hL
        match r with
        | 0=>simp at hL
        | r+1=>simp at hr
      · intro r hr;have h1:=e3.out r (Nat.zero_le _)
        match r with
        | 0=>simp at hr
        | r+1=>simpa using h1
      · obtain⟨s,e,c,h1,_⟩:=ho
        match r with
        | 0=>simp at h1
        | r+1=>simp at h1
   · cases hv
 · cases hv
namespace Z5
open Go.Proofs.Tryz
theorem clS_t:EV prog pol (.callO false 135 [.t (.nlist true 1 [])] [])=some (.call (.nil 1) []):=by
 refine zM func135 rfl (by kernel_rfl) ?_;unfold Tryz.f135;simp (disch:=(try simp only[LL]);omega) only[↓GO,↓DRW,GA,GX,ren,zj,za,refs,z7,cst,zm,isC,bin,una,z6,zd,blt,asArg,zg,zc,zf,z1,zn,unN,ze,zk,zb,GS,simprocAttr]
theorem clS_f (es:List (List T))(hl:es.length≤4194304):EV prog pol (.callO false 135 [.t (.nlist false 1 es)] [])=some (.call (.sl 0 0 es.length none) [.ts 1 es]):=by
 refine zM func135 rfl (by kernel_rfl) ?_;unfold Tryz.f135;simp (disch:=(try simp only[LL]);omega) only[↓GO,↓DRW,GA,GX,ren,zj,za,refs,z7,cst,zm,isC,bin,una,z6,zd,blt,asArg,zg,zc,zf,z1,zn,unN,ze,zk,zb,GS,simprocAttr,y6]
end Z5
theorem W3 (W0:World):rJ prog W0 135 (jB 1):=W2 W0 _ 1 Z5.clS_t Z5.clS_f
end Go.Proofs.YtefkoljdebekdaaGreatDoor
/- The seat's facts: the policy; what is shown by other means. Conditions: none. -/
namespace Go.Proofs.YtefkoljdebekdaaGreatDoor
open Go.Proofs.Tryz
open E
def pmT (f d:Nat):PM :=
 if f=94∧(d=14∨d=18∨d=20∨d=22∨d=24) then .opn false else
 if f=131∧d=7 then .opn false else
 if f=68∧d=9 then .opn false else
 if f=132∧d=9 then .opn false else
 if f=95∧d=5 then .opn false else
 if f=134∧d=5 then .opn false else
 if f=241∧(d=18∨d=21∨d=30∨d=37∨d=39∨d=59∨d=61) then .opn false else
 if f=161 then .opn false else
 if f=96∧d=5 then .opn false else
 if f=202∧(d=13∨d=25) then .opn false else
 if f=195 then .opn false else
 if f=133∧(d=11∨d=18∨d=26∨d=42∨d=49∨d=72) then .opn false else
 if f=50∧(d=6∨d=16∨d=18∨d=25∨d=35∨d=80) then .opn false else
 if f=153∧(d=10∨d=19∨d=27∨d=59) then .opn false else
 if f=153∧d=50 then .opn true else
 if f=153∧d=80 then .frz else
 if f=86∧(d=7∨d=11) then .opn false else
 if f=86∧(d=9∨d=15∨d=18) then .opn true else
 if f=26 then .opn false else
 if f=109∧(d=21∨d=23) then .opn false else
 if f=44∧d=27 then .frz else
 if f=121∧d=33 then .frz else
 if f=155∧(d=7∨d=11∨d=13) then .opn false else
 if f=87∧(d=14∨d=27) then .frz else
 if f=154∧d=24 then .opn false else
 if f=91∧(d=23∨d=38) then .opn false else
 if f=88∧(d=6∨d=8) then .opn false else
 if f=240∧d=11 then .frz else
 if f=200∧d=20 then .opn false else
 .pure
def nU (f:Nat):Bool :=
 if f=196 then true else
 if f=133 then true else
 if f=50 then true else
 if f=56 then true else
 false
def ghT (f n:Nat):List Gh :=
 if f=196∧n=2 then [⟨.unf,2,some 5,[(3,true),(5,true)],some 1⟩] else
 if f=196∧n=3 then [⟨.fold,2,some 5,[(3,true),(5,true)],some 1⟩] else
 if f=196∧n=4 then [⟨.fold,2,some 5,[(3,true),(5,true)],some 1⟩] else
 if f=196∧n=5 then [⟨.fold,2,some 5,[(3,true),(5,true)],some 1⟩] else
 if f=133∧n=3 then [⟨.fold,3,none,[(1,false)],none⟩,⟨.unf,3,none,[(1,false)],none⟩] else
 if f=133∧n=9 then [⟨.fold,3,none,[(0,true)],none⟩] else
 if f=133∧n=16 then [⟨.unf,3,some 7,[(3,true),(5,true)],some 1⟩,⟨.unf,3,some 8,[(3,true),(5,true)],some 1⟩] else
 if f=133∧n=14 then [⟨.fold,3,some 7,[(3,true),(5,true)],some 1⟩,⟨.fold,3,some 8,[(3,true),(5,true)],some 1⟩] else
 if f=133∧n=18 then [⟨.unf,3,none,[(0,true)],none⟩,⟨.unf,3,some 7,[(3,true),(5,true)],some 1⟩] else
 if f=133∧n=11 then [⟨.fold,3,none,[(0,true)],none⟩,⟨.fold,3,some 7,[(3,true),(5,true)],some 1⟩] else
 if f=133∧n=19 then [⟨.unf,3,none,[(0,true)],none⟩] else
 if f=50∧n=11 then [⟨.unf,3,some 4,[(5,true)],some 1⟩] else
 if f=50∧n=17 then [⟨.unf,3,some 4,[(3,false)],some 1⟩] else
 if f=50∧n=19 then [⟨.unf,3,some 4,[(3,true),(5,true)],some 1⟩,⟨.frz,3,some 4,[(3,true),(5,true)],some 1⟩] else
 if f=50∧n=20 then [⟨.frz,3,some 4,[(3,true),(5,true)],some 1⟩] else
 if f=75∧n=2 then [⟨.fold,5,none,[(0,true),(1,true)],none⟩,⟨.unf,5,none,[(0,true),(1,true)],none⟩] else
 []
def dmT (f n:Nat):Bool :=
 if f=196∧(n=4∨n=1004) then true else
 if f=133∧(n=16∨n=18) then true else
 if f=50∧(n=7∨n=9∨n=11∨n=17∨n=19) then true else
 false
def drT (_:Nat):Bool:=true
def gP (f:Nat)(args:List V):Option V :=
 if f=191 then Xd args else
 if f=194 then oD args else
 if f=227 then Xe args else
 if f=188 then Xp args else
 if f=125 then Re args else
 if f=126 then ee args else
 none
def tm (f:Nat)(args:List V)(h:Heap):Option (V×Heap) :=
 if f=163 then X6 args h else
 if f=167 then Xj args h else
 if f=203 then Xg args h else
 if f=135 then jB 1 args h else
 none
noncomputable def bY:Pol:=bQ prog pmT zL zK drT gP tm nU ghT dmT
theorem ZG:∀ f fn c,bY.no f=false→prog.funcs[f]? = some fn→fn.body=some c→xn (oQ prog bY f) fn.ntmps c=true:=dU
noncomputable def pol:Pol:={ bY with no:=fun f=>bY.no f||f==166 }
theorem jx:∀ f fn c,pol.no f=false→prog.funcs[f]? = some fn→fn.body=some c→xn (oQ prog pol f) fn.ntmps c=true :=
 fun f fn c h h1 h2=>ZG f fn c (by
  have h':(bY.no f||f==166)=false:=h;rw[Bool.or_eq_false_iff]at h';exact h'.1) h1 h2
theorem DRW:∀ (rc:Rec) (f m p n:Nat) (fs:List Fr) (k:rI) (e:Env) (h:Heap) (l:List Oper),goC ⟨prog,pol,rc,f,m⟩ (.region n l.toArray true) p fs k e h=goD ⟨prog,pol,rc,f,m⟩ (l.all (ym pol f)) (nU f&&dmT f n) (dmT f (n+1000)) l fs k e (ghH (ghT f n) e h):=fun _ _ _ _ _ _ _ _ _ _=>jf _ _ _ _ _ _ _ _ rfl
theorem LVS:∀ f p,pol.live f p=zL f p:=fun _ _=>rfl
theorem OVS:∀ f p,pol.outs f p=zK f p:=fun _ _=>rfl
theorem PMS:∀ f d,pol.pm f d=pmT f d:=fun _ _=>rfl
theorem OWS:∀ f,pol.own f=nU f:=fun _=>rfl
theorem DMS:∀ f n,pol.dm f n=dmT f n:=fun _ _=>rfl
theorem GHS:∀ f n,pol.gh f n=ghT f n:=fun _ _=>rfl
theorem GS:type_of% @LVS∧type_of% @OVS∧type_of% @LTS∧type_of% @TYS∧type_of% @PMS∧type_of% @OWS∧type_of% @GHS∧type_of% @DMS∧type_of% @pmT.eq_1∧type_of% @nU.eq_1∧type_of% @ghT.eq_1∧type_of% @dmT.eq_1:=⟨@LVS,@OVS,@LTS,@TYS,@PMS,@OWS,@GHS,@DMS,@pmT.eq_1,@nU.eq_1,@ghT.eq_1,@dmT.eq_1⟩
theorem o7 (f:Nat)(args:List V)(h:Heap):pol.extO f args h=tm f args h:=rfl
theorem qc (f:Nat)(args:List V):pol.ext f args=gP f args:=rfl
def pE (W0:World):Prop :=
 Lib.TabIs prog W0 "internal/strconv.uint64pow10" .u64 Lib.pow10Tab ∧
 ((∃ tp p, W0.var? prog "strconv.ErrSyntax" = some #[.iface tp p]) ∧ (∃ tp p, W0.var? prog "strconv.ErrRange" = some #[.iface tp p])) ∧
 (∃ m,W0.cell? ⟨Tryz.sd.g 1,0,none⟩=some (.int .i64 m)) ∧
 True
theorem YD (W0:World)(hL:pE W0)(g:Nat):rJ prog W0 g (pol.extO g):=by
 intro args h v h' hv;have hv':tm g args h=some (v,h'):=hv;clear hv;unfold tm at hv'
 by_cases hg:g=163
 · subst hg;rw[if_pos rfl]at hv';exact Ty W0 args h v h' hv'
 rw[if_neg hg]at hv';clear hg
 by_cases hg:g=167
 · subst hg;rw[if_pos rfl]at hv';exact Sr W0 args h v h' hv'
 rw[if_neg hg]at hv';clear hg
 by_cases hg:g=203
 · subst hg;rw[if_pos rfl]at hv';exact Se W0 args h v h' hv'
 rw[if_neg hg]at hv';clear hg
 by_cases hg:g=135
 · subst hg;rw[if_pos rfl]at hv';exact W3 W0 args h v h' hv'
 rw[if_neg hg]at hv';clear hg
 cases hv'
theorem UF (W0:World)(hL:pE W0):l0 prog W0 pol:=by
 refine⟨?_,YD W0 hL⟩;intro g args v hv;have hv':gP g args=some v:=hv;clear hv;unfold gP at hv'
 by_cases hg:g=191
 · subst hg;rw[if_pos rfl]at hv';exact S8 W0 args v hv'
 rw[if_neg hg]at hv';clear hg
 by_cases hg:g=194
 · subst hg;rw[if_pos rfl]at hv';exact aD W0 args v hv'
 rw[if_neg hg]at hv';clear hg
 by_cases hg:g=227
 · subst hg;rw[if_pos rfl]at hv';exact S9 W0 hL.1 args v hv'
 rw[if_neg hg]at hv';clear hg
 by_cases hg:g=188
 · subst hg;rw[if_pos rfl]at hv';exact SU W0 hL.2.1.1 hL.2.1.2 args v hv'
 rw[if_neg hg]at hv';clear hg
 by_cases hg:g=125
 · subst hg;rw[if_pos rfl]at hv';exact Qr W0 hL.2.2.1 args v hv'
 rw[if_neg hg]at hv';clear hg
 by_cases hg:g=126
 · subst hg;rw[if_pos rfl]at hv';exact Wr W0 hL.2.2.1 args v hv'
 rw[if_neg hg]at hv';clear hg
 cases hv'
theorem QE (ks:List Str)(sep:Str)(h1:ks.length≤140737488355328)(h2:(Lib.join ks sep).length≤140737488355328):zr (EV prog pol) 191 [.t (.list 1 (strs ks)),.t (.str sep)]=some (.t (.str (Lib.join ks sep))) :=
 zu (mh (by rw[qc];unfold gP;simp (config:={ decide:=true }) only[if_true,if_false,reduceIte,Xd,vS];rw[if_pos ⟨h1,h2⟩]))
theorem UH (a b:Str):zr (EV prog pol) 194 [.t (.str a),.t (.str b)]=some (.t (.int .i64 (Lib.compareBytes a b))) :=
 zu (mh (by rw[qc];unfold gP;simp (config:={ decide:=true }) only[if_true,if_false,reduceIte,oD]))
theorem QF (n:Int)(h1 : -9223372036854775808≤n)(h2:n≤9223372036854775807):zr (EV prog pol) 227 [.t (.int .i64 n)]=some (.t (.str (Lib.itoa n))) :=
 zu (mh (by rw[qc];unfold gP;simp (config:={ decide:=true }) only[if_true,if_false,reduceIte,Xe];rw[if_pos ⟨h1,h2⟩]))
theorem QL (s:Str)(h:s.length≤281474976710656):zr (EV prog pol) 188 [.t (.str s)]=some (match Lib.atoiAll s with
 | .ok v=>.tup [.t (.int .i64 v),.t .nili]
 | Lib.NumEnd.syntax=>.tup [.t (.int .i64 0),.t .nni]
 | .range=>.tup [.t (.int .i64 (Lib.atoiSat s)),.t .nni]) :=
 zu (mh (by rw[qc];unfold gP;simp (config:={ decide:=true }) only[if_true,if_false,reduceIte,Xp];rw[if_pos h];cases Lib.atoiAll s<;>rfl))
theorem c_cut (s sep:Str)(h:s.length<4294967281):zr (EV prog pol) 125 [.t (.str s),.t (.str sep)]=some (.tup [.t (.str (Lib.cut s sep).1),.t (.str (Lib.cut s sep).2.1),.t (.bool (Lib.cut s sep).2.2)]) :=
 zu (mh (by rw[qc];unfold gP;simp (config:={ decide:=true }) only[if_true,if_false,reduceIte,Re];rw[if_pos h]))
theorem fV (s sep:Str)(h:s.length<4294967281)(h1:1≤sep.length):zr (EV prog pol) 126 [.t (.str s),.t (.str sep)]=some (.t (.list 1 (strs (jw s sep)))) :=
 zu (mh (by rw[qc];unfold gP;simp (config:={ decide:=true }) only[if_true,if_false,reduceIte,ee];rw[if_pos ⟨h,h1⟩]))
theorem jl (es:List (List T))(h:es.length≤4194304):EV prog pol (.callO false 135 [.t (.list 1 es)] [])=some (.call (.sl 0 0 es.length none) [.ts 1 es]) :=
 oV (x:=(.sl 0 0 es.length none,[.ts 1 es])) (by rw[o7];unfold tm;simp (config:={ decide:=true }) only[if_true,if_false,reduceIte,jB];rw[if_pos ⟨trivial,h⟩])
theorem QG (n:Nat)(h:n≤4194304):EV prog pol (.callO false 203 [.nil 6,.t (.int .i64 (n:Int))] [])=some (.call (.sl 0 0 0 none) [.ts 6 []]) :=
 oV (x:=(.sl 0 0 0 none,[.ts 6 []])) (by rw[o7];unfold tm;simp (config:={ decide:=true }) only[if_true,if_false,reduceIte,Xg];rw[if_pos ⟨trivial,by omega,by omega⟩])
theorem Qx (ks:List Str)(h:ks.length≤1073741824)(n:Nat)(hn:n=ks.length)(cap:Option Nat):EV prog pol (.callO false 163 [.sl 0 0 n cap] [.ts 1 (strs ks)])=some (.call (.tup []) [.ts 1 (strs (wy ks))]) :=
 oV (x:=(.tup [],[.ts 1 (strs (wy ks))])) (by rw[o7];unfold tm;simp (config:={ decide:=true }) only[if_true,if_false,reduceIte,X6,vS];rw[if_pos ⟨hn,h⟩])
theorem UL (ks:List Str)(h:ks.length≤1073741824)(n:Nat)(hn:n=ks.length)(cap:Option Nat):EV prog pol (.callO false 167 [.sl 0 0 n cap] [.ts 1 (strs ks)])=some (.call (.sl 0 0 (Lib.compact ks).length cap) [.ts 1 (strs (uV ks))]) :=
 oV (x:=(.sl 0 0 (Lib.compact ks).length cap,[.ts 1 (strs (uV ks))])) (by rw[o7];unfold tm;simp (config:={ decide:=true }) only[if_true,if_false,reduceIte,Xj,vS];rw[if_pos ⟨hn,h⟩])
end Go.Proofs.YtefkoljdebekdaaGreatDoor
/- The start's memory: what the rows' lists give. Conditions: none. -/
namespace Go.Proofs.YtefkoljdebekdaaGreatDoor
open Go.Proofs.Tryz
open Go.ChangeShapes Go.WideShapes Go.ChangeAt Go.RowKit E
theorem star : "*" ++ "errors.errorString" = "*errors.errorString" := by decide
theorem rowE (u : TypeId) (h : Tryz.prog.typeName? 3 u = some "*errors.errorString") : u = 259 :=
 typeName_ptr_named (nm := "errors.errorString") (by rw [star]; kernel_rfl) (by kernel_rfl) (by decide) u (by rw [star]; exact h)
theorem aw {W : World} (hS : W.ShapedOpen prog) (h1 : ∃ r, laidMet prog (("internal/strconv.uint64pow10", Rows.laid_internal_strconv_uint64pow10) :: r) W)
 (h2 : ∃ r, laidMet prog (("strconv.ErrRange", Rows.laid_strconv_ErrRange) :: r) W) (h3 : ∃ r, laidMet prog (("strconv.ErrSyntax", Rows.laid_strconv_ErrSyntax) :: r) W) : pE W := by
 obtain⟨r1,h1⟩:=h1;obtain⟨r2,h2⟩:=h2;obtain⟨r3,h3⟩:=h3
 refine ⟨Lib.tabIs_of_head (k := .u64) (zs := Lib.pow10Tab) (rest := r1) (show Tryz.prog.globalNamed "internal/strconv.uint64pow10" = some 5 by kernel_rfl) (show (Tryz.prog.globals[5]?).map (·.type) = some 268 by kernel_rfl)
  Tryz.underlying268 Tryz.underlying212 (by kernel_rfl) (by kernel_rfl) h1,⟨?_,?_⟩,?_,trivial⟩
 · obtain ⟨a, s, q1, _⟩ := laid_sentinel (nm := "*errors.errorString") h3 (show Tryz.prog.globalNamed "strconv.ErrSyntax" = some 1 by kernel_rfl) (show (Tryz.prog.globals[1]?).map (·.type) = some 163 by kernel_rfl) Tryz.underlying163 rowE
    Tryz.underlying259 Tryz.underlying261 rfl rfl Tryz.underlying9 (by kernel_rfl) (by kernel_rfl)
   exact⟨_,_,q1⟩
 · obtain ⟨a, s, q1, _⟩ := laid_sentinel (nm := "*errors.errorString") h2 (show Tryz.prog.globalNamed "strconv.ErrRange" = some 2 by kernel_rfl) (show (Tryz.prog.globals[2]?).map (·.type) = some 163 by kernel_rfl) Tryz.underlying163 rowE
    Tryz.underlying259 Tryz.underlying261 rfl rfl Tryz.underlying9 (by kernel_rfl) (by kernel_rfl)
   exact⟨_,_,q1⟩
 · exact Tryz.cH.s1_3 W hS
end Go.Proofs.YtefkoljdebekdaaGreatDoor
/- The numbers that the draws take: from each state the chosen one is reached. Conditions: none. -/
namespace Go.Proofs.YtefkoljdebekdaaGreatDoor
open Go.Proofs.Tryz
open E
def Fn (a c:Int):Nat→Int→Int
 | 0,x=>x
 | n+1,x=>a*Fn a c n x+c
theorem Zj (a c:Int):∀ m n x,Fn a c (m+n) x=Fn a c m (Fn a c n x)
 | 0,n,x=>by rw[Nat.zero_add];rfl
 | m+1,n,x=>by rw[show m+1+n=(m+n)+1 by omega,Fn,Fn,Zj a c m n x]
theorem UT (a c s0 t0:Int)(ha:a=1+4*s0)(hc:c=2*t0+1):∀ k:Nat,∃ s t:Int,∀ x,Fn a c (2 ^ k) x=x+4*2 ^ k*s*x+2 ^ k*(2*t+1)
 | 0=>⟨s0,t0,fun x=>by
  show a*x+c=_
  subst ha hc
  grind⟩
 | k+1=>by
  obtain⟨s,t,h⟩:=UT a c s0 t0 ha hc k;refine⟨s+2*2 ^ k*s*s,t+2 ^ k*s*(2*t+1),fun x=>?_⟩;rw[show (2:Nat) ^ (k+1)=2 ^ k+2 ^ k by rw[Nat.pow_succ];omega,Zj,h,h,Int.pow_succ];generalize (2:Int) ^ k=p
  grind
theorem bP (a c s0 t0:Int)(ha:a=1+4*s0)(hc:c=2*t0+1)(x y:Int):∀ k:Nat,∃ (n:Nat) (q:Int),Fn a c n x=y+2 ^ k*q
 | 0=>⟨0,x - y,by show x=_;grind⟩
 | k+1=>by
  obtain⟨n,q,h⟩:=bP a c s0 t0 ha hc x y k;obtain⟨s,t,g⟩:=UT a c s0 t0 ha hc k;rcases Int.emod_two_eq q with e|e
  · refine⟨n,q / 2,?_⟩;have e2:q=2*(q / 2):=by omega
    rw[h,Int.pow_succ];generalize (2:Int) ^ k=p at *;generalize q / 2=r at *;subst e2
    grind
  · refine⟨2 ^ k+n,q / 2+t+1+2*s*(y+2 ^ k*q),?_⟩;have e2:q=2*(q / 2)+1:=by omega
    rw[Zj,h,g,Int.pow_succ];generalize (2:Int) ^ k=p at *;generalize q / 2=r at *;subst e2
    grind
def w64 (x:Int):Int:=IntKind.i64.wrap x
theorem fu (x:Int):∃ q:Int,w64 x=x+2 ^ 64*q:=by
 refine⟨-((x+9223372036854775808) / 18446744073709551616),?_⟩;unfold w64;rw[IntKind.wrap_i64];omega
theorem VQ (x:Int) : -9223372036854775808≤w64 x∧w64 x≤9223372036854775807:=by
 unfold w64;rw[IntKind.wrap_i64];omega
theorem w64_eq {x y q:Int}(hy : -9223372036854775808≤y∧y≤9223372036854775807)(h:x=y+2 ^ 64*q):w64 x=y:=by
 obtain⟨q',e⟩:=fu x;have:=VQ x;omega
def lcA:Int:=6364136223846793005
def lcC:Int:=1442695040888963407
def lcg (h:Int):Int:=w64 (w64 (h*lcA)+lcC)
def oJ:Nat→Int→Int
 | 0,h=>h
 | n+1,h=>lcg (oJ n h)
theorem cE:∀ m n h,oJ (m+n) h=oJ m (oJ n h)
 | 0,n,h=>by rw[Nat.zero_add];rfl
 | m+1,n,h=>by rw[show m+1+n=(m+n)+1 by omega,oJ,oJ,cE m n h]
theorem Uk (h:Int) : -9223372036854775808≤lcg h∧lcg h≤9223372036854775807:=VQ _
theorem Y0 (h:Int):∀ n,∃ q,oJ n h=Fn lcA lcC n h+2 ^ 64*q
 | 0=>⟨0,by show h=h+_;omega⟩
 | n+1=>by
  obtain⟨q,e⟩:=Y0 h n
  show ∃ q,lcg (oJ n h)=lcA*Fn lcA lcC n h+lcC+2 ^ 64*q
  unfold lcg;obtain⟨q1,e1⟩:=fu (oJ n h*lcA);obtain⟨q2,e2⟩:=fu (w64 (oJ n h*lcA)+lcC);refine⟨lcA*q+q1+q2,?_⟩;rw[e2,e1,e];generalize lcA=a;generalize Fn a lcC n h=z;generalize lcC=c;generalize (2:Int) ^ 64=p
  grind
theorem XP (h y:Int)(hh : -9223372036854775808≤h∧h≤9223372036854775807)(hy : -9223372036854775808≤y∧y≤9223372036854775807):∃ n,oJ n h=y:=by
 obtain⟨n,q,e⟩:=bP lcA lcC 1591034055961698251 721347520444481703 (by decide) (by decide) h y 64;obtain⟨q',e'⟩:=Y0 h n;refine⟨n,?_⟩;have hr : -9223372036854775808≤oJ n h∧oJ n h≤9223372036854775807:=by
  cases n with
  | zero=>exact hh
  | succ n=>exact Uk _
 omega
def Rf (x y:Int):Int:=IntKind.i64.wrap (((BitVec.ofInt 64 x ^^^ BitVec.ofInt 64 y).toNat:Nat):Int)
def fo (x y:Int):Int:=IntKind.i64.wrap (((BitVec.ofInt 64 x &&& BitVec.ofInt 64 y).toNat:Nat):Int)
theorem US (x:Int):∃ n:Nat,n≤255∧fo x 255=(n:Int):=by
 have h:(BitVec.ofInt 64 x &&& BitVec.ofInt 64 255).toNat≤255:=by
  rw[BitVec.toNat_and];exact Nat.le_trans Nat.and_le_right (by decide)
 refine⟨_,h,?_⟩;unfold fo;exact zi (by omega)
def QW (h:Int):Int:=fo (Rf (h.fdiv (2 ^ 33)) (h.fdiv (2 ^ 45))) 255
abbrev Cs:=Nat×Int
def nxI (bs:List Int)(c:Cs):Int:=match bs[c.1]? with
 | some b=>fo (w64 (QW (lcg c.2)+b)) 255
 | none=>QW (lcg c.2)
def nxC (bs:List Int)(c:Cs):Cs:=match bs[c.1]? with
 | some _=>(c.1+1,lcg c.2)
 | none=>(c.1,lcg c.2)
theorem ZU (bs:List Int)(c:Cs):∃ n:Nat,n≤255∧nxI bs c=(n:Int):=by
 unfold nxI
 split
 · exact US _
 · exact US _
def nxN (bs:List Int)(c:Cs):Nat:=(nxI bs c).toNat
theorem Qf (bs:List Int)(c:Cs):nxN bs c≤255:=by
 obtain⟨n,h1,h2⟩:=ZU bs c;unfold nxN;rw[h2];simpa using h1
theorem Ug (bs:List Int)(c:Cs):nxI bs c=(nxN bs c:Int):=by
 obtain⟨n,h1,h2⟩:=ZU bs c;unfold nxN;rw[h2];simp
theorem Uh (bs:List Int)(c:Cs)(h:c.1≤bs.length):(nxC bs c).1≤bs.length:=by
 unfold nxC
 split
 · rename_i b hb;have:=(List.getElem?_eq_some_iff.1 hb).1;exact this
 · exact h
def xA (bs:List Int):Nat→Cs→Cs
 | 0,c=>c
 | n+1,c=>xA bs n (nxC bs c)
def py (bs:List Int):Cs:=(bs.length,9)
theorem rp (bs:List Int):∀ m n c,xA bs (m+n) c=xA bs n (xA bs m c)
 | 0,n,c=>by rw[Nat.zero_add];rfl
 | m+1,n,c=>by rw[show m+1+n=(m+n)+1 by omega,xA,xA,rp bs m n]
theorem kY (bs:List Int)(h:Int):nxC bs (bs.length,h)=(bs.length,lcg h):=by
 unfold nxC;simp
theorem nu (bs:List Int):∀ n h,xA bs n (bs.length,h)=(bs.length,oJ n h)
 | 0,h=>rfl
 | n+1,h=>by
  rw[xA,kY,nu bs n]
  congr 1
  have:=cE n 1 h;rw[this];rfl
theorem Zn (bs:List Int):∀ (k:Nat) (c:Cs),c.1+k=bs.length→∃ n h,xA bs n c=(bs.length,h)
 | 0,c,hc=>⟨0,c.2,by show c=_;ext1<;>simp_all⟩
 | k + 1, c, hc => by
  have hb:(nxC bs c).1+k=bs.length:=by
   unfold nxC;rw[List.getElem?_eq_getElem (show c.1<bs.length by omega)];simp only;omega
  obtain⟨n,h,e⟩:=Zn bs k (nxC bs c) hb;exact⟨n+1,h,e⟩
theorem ae (bs:List Int)(c:Cs)(hc:c.1≤bs.length):∃ n,xA bs n c=py bs:=by
 obtain⟨n,h,e⟩:=Zn bs (bs.length - c.1) c (by omega);obtain⟨m,e2⟩:=XP (lcg h) 9 (Uk h) (by decide);refine⟨n+(1+m),?_⟩;rw[rp,e,rp,nu,nu]
 show (bs.length,oJ m (lcg h))=_
 rw[e2];rfl
theorem Wq (bs:List Int):nxN bs (py bs)=179∧nxN bs (nxC bs (py bs))=203∧nxN bs (nxC bs (nxC bs (py bs)))=89:=by
 unfold py;rw[kY,kY];unfold nxN nxI;simp only[List.getElem?_eq_none (Nat.le_refl bs.length)];exact⟨by decide +kernel,by decide +kernel,by decide +kernel⟩
theorem rC (a lo hi:Int):zr (EV prog pol) 52 [.t (.int .i64 a),.t (.int .i64 lo),.t (.int .i64 hi)]=some (.t (.bool (B2 a lo hi))):=by
 apply zu;refine zx rfl func52 rfl (by kernel_rfl) ?_;unfold Tryz.f52;unfold B2
 repeat' (first|(((first|with_reducible refine mc (fun hA=>?_) (fun hA=>?_)|with_reducible refine nZ (fun hA=>?_) (fun hA=>?_))<;>(try simp only[bne,Bool.not_eq_true',Bool.not_eq_false']at hA)<;>(first|(have hP:=Int.le_of_eq (eq_of_beq (α:=Int) hA);have hQ:=Int.le_of_eq (eq_of_beq (α:=Int) hA).symm)|have hP:=of_decide_eq_true hA|have hP:=of_decide_eq_false hA|skip))<;>(simp (disch:=(try simp only[LL]);omega) only[↓GO,↓DRW,GA,GX,ren,zj,za,refs,z7,cst,zm,isC,bin,una,z6,zd,blt,asArg,zg,zc,zf,z1,zn,unN,ze,zk,zb,GS,simprocAttr,zi,bne, *]))|(simp (disch:=(try simp only[LL]);omega) only[↓GO,↓DRW,GA,GX,ren,zj,za,refs,z7,cst,zm,isC,bin,una,z6,zd,blt,asArg,zg,zc,zf,z1,zn,unN,ze,zk,zb,GS,simprocAttr,zi,bne, *]))
theorem wV (a lo hi:Int):zr (EV prog pol) 80 [.t (.int .i64 a),.t (.int .i64 lo),.t (.int .i64 hi)]=some (.t (.bool (B2 a lo hi))):=by
 apply zu;refine zx rfl func80 rfl (by kernel_rfl) ?_;unfold Tryz.f80;unfold B2
 repeat' (first|(((first|with_reducible refine mc (fun hA=>?_) (fun hA=>?_)|with_reducible refine nZ (fun hA=>?_) (fun hA=>?_))<;>(try simp only[bne,Bool.not_eq_true',Bool.not_eq_false']at hA)<;>(first|(have hP:=Int.le_of_eq (eq_of_beq (α:=Int) hA);have hQ:=Int.le_of_eq (eq_of_beq (α:=Int) hA).symm)|have hP:=of_decide_eq_true hA|have hP:=of_decide_eq_false hA|skip))<;>(simp (disch:=(try simp only[LL]);omega) only[↓GO,↓DRW,GA,GX,ren,zj,za,refs,z7,cst,zm,isC,bin,una,z6,zd,blt,asArg,zg,zc,zf,z1,zn,unN,ze,zk,zb,GS,simprocAttr,zi,bne,ge_iff_le, *]))|(simp (disch:=(try simp only[LL]);omega) only[↓GO,↓DRW,GA,GX,ren,zj,za,refs,z7,cst,zm,isC,bin,una,z6,zd,blt,asArg,zg,zc,zf,z1,zn,unN,ze,zk,zb,GS,simprocAttr,zi,bne,ge_iff_le, *]))
theorem gD (a:Int):zr (EV prog pol) 174 [.t (.int .u8 a)]=some (.t (.bool (B2 a 97 122))):=by
 apply zu;refine zx rfl func174 rfl (by kernel_rfl) ?_;unfold Tryz.f174;unfold B2
 repeat' (first|(((first|with_reducible refine mc (fun hA=>?_) (fun hA=>?_)|with_reducible refine nZ (fun hA=>?_) (fun hA=>?_))<;>(try simp only[bne,Bool.not_eq_true',Bool.not_eq_false']at hA)<;>(first|(have hP:=Int.le_of_eq (eq_of_beq (α:=Int) hA);have hQ:=Int.le_of_eq (eq_of_beq (α:=Int) hA).symm)|have hP:=of_decide_eq_true hA|have hP:=of_decide_eq_false hA|skip))<;>(simp (disch:=(try simp only[LL]);omega) only[↓GO,↓DRW,GA,GX,ren,zj,za,refs,z7,cst,zm,isC,bin,una,z6,zd,blt,asArg,zg,zc,zf,z1,zn,unN,ze,zk,zb,GS,simprocAttr,zi,bne,ge_iff_le, *]))|(simp (disch:=(try simp only[LL]);omega) only[↓GO,↓DRW,GA,GX,ren,zj,za,refs,z7,cst,zm,isC,bin,una,z6,zd,blt,asArg,zg,zc,zf,z1,zn,unN,ze,zk,zb,GS,simprocAttr,zi,bne,ge_iff_le, *]))
theorem nR (a:Int):zr (EV prog pol) 175 [.t (.int .u8 a)]=some (.t (.bool (B2 a 48 57))):=by
 apply zu;refine zx rfl func175 rfl (by kernel_rfl) ?_;unfold Tryz.f175;unfold B2
 repeat' (first|(((first|with_reducible refine mc (fun hA=>?_) (fun hA=>?_)|with_reducible refine nZ (fun hA=>?_) (fun hA=>?_))<;>(try simp only[bne,Bool.not_eq_true',Bool.not_eq_false']at hA)<;>(first|(have hP:=Int.le_of_eq (eq_of_beq (α:=Int) hA);have hQ:=Int.le_of_eq (eq_of_beq (α:=Int) hA).symm)|have hP:=of_decide_eq_true hA|have hP:=of_decide_eq_false hA|skip))<;>(simp (disch:=(try simp only[LL]);omega) only[↓GO,↓DRW,GA,GX,ren,zj,za,refs,z7,cst,zm,isC,bin,una,z6,zd,blt,asArg,zg,zc,zf,z1,zn,unN,ze,zk,zb,GS,simprocAttr,zi,bne,ge_iff_le, *]))|(simp (disch:=(try simp only[LL]);omega) only[↓GO,↓DRW,GA,GX,ren,zj,za,refs,z7,cst,zm,isC,bin,una,z6,zd,blt,asArg,zg,zc,zf,z1,zn,unN,ze,zk,zb,GS,simprocAttr,zi,bne,ge_iff_le, *]))
theorem wrap_u8 (b:UInt8):IntKind.i64.wrap (b.toNat:Int)=(b.toNat:Int):=by have:=UW b;exact zi (by omega)
theorem mS (b:UInt8):zr (EV prog pol) 180 [.t (.int .u8 (b.toNat:Int))]=some (.t (.bool (B2 (nb b) 97 122||B2 (nb b) 48 57))):=by
 apply zu;refine zx rfl func180 rfl (by kernel_rfl) ?_;unfold Tryz.f180;have h1:=wV (b.toNat:Int) 97 122;have h2:=wV (b.toNat:Int) 48 57
 repeat' (first|(((first|with_reducible refine mc (fun hA=>?_) (fun hA=>?_)|with_reducible refine nZ (fun hA=>?_) (fun hA=>?_))<;>(try simp only[bne,Bool.not_eq_true',Bool.not_eq_false']at hA)<;>(first|(have hP:=Int.le_of_eq (eq_of_beq (α:=Int) hA);have hQ:=Int.le_of_eq (eq_of_beq (α:=Int) hA).symm)|have hP:=of_decide_eq_true hA|have hP:=of_decide_eq_false hA|skip))<;>(simp (disch:=(try simp only[LL]);omega) only[↓GO,↓DRW,GA,GX,ren,zj,za,refs,z7,cst,zm,isC,bin,una,z6,zd,blt,asArg,zg,zc,zf,z1,zn,unN,ze,zk,zb,GS,simprocAttr,zi,bne,conv,wrap_u8, *]))|(simp (disch:=(try simp only[LL]);omega) only[↓GO,↓DRW,GA,GX,ren,zj,za,refs,z7,cst,zm,isC,bin,una,z6,zd,blt,asArg,zg,zc,zf,z1,zn,unN,ze,zk,zb,GS,simprocAttr,zi,bne,conv,wrap_u8, *]))
theorem RF (f:Nat)(p:UInt8→Bool)(hp:∀ b:UInt8,zr (EV prog pol) f [.t (.int .u8 (b.toNat:Int))]=some (.t (.bool (p b))))(s:Str)(hl:s.length≤9223372036854775807):∀ (rest pre:Str),s=pre++rest →
 EV prog pol (.loop 172 26 0 [.t (.str s),.t (.fn f []),.t (.int .i64 (s.length:Int)),.t (.int .i64 (pre.length:Int))] [])=some (cond (rest.all p) (.loop (.exit 0) [.bad] []) (.loop .ret [.t (.bool false)] []))
 | [],pre,hs=>by
  have c:decide ((pre.length:Int)<(s.length:Int))=false:=by simp[hs]
  refine zh func172 rfl rfl ?_;simp only[↓GO,↓DRW,GA,GX,ren,zj,za,refs,z7,cst,zm,isC,bin,una,z6,zd,blt,asArg,zg,zc,zf,z1,zn,unN,ze,zk,zb,GS,simprocAttr,c]
 | b :: rest, pre, hs => by
  have c:decide ((pre.length:Int)<(s.length:Int))=true:=by simp[hs];omega
  have hget:s[pre.length]? = some b:=by rw[hs];exact sI pre b rest
  have hlen:s.length=pre.length+rest.length+1:=by rw[hs];simp;omega
  have e1:(pre.length:Int)+1=((pre++[b]).length:Int):=by simp
  have IH:=RF f p hp s hl rest (pre++[b]) (by rw[hs];simp);have hb:=hp b;refine zh func172 rfl rfl ?_
  cases hpb:p b with
  | true =>
   rw[hpb]at hb;simp (disch:=omega) only[↓GO,↓DRW,GA,GX,ren,zj,za,refs,z7,cst,zm,isC,bin,una,z6,zd,blt,asArg,zg,zc,zf,z1,zn,unN,ze,zk,zb,GS,simprocAttr,c,hget,zi,hb];rw[e1,IH,hpb,Bool.true_and]
  | false =>
   rw[hpb]at hb;simp (disch:=omega) only[↓GO,↓DRW,GA,GX,ren,zj,za,refs,z7,cst,zm,isC,bin,una,z6,zd,blt,asArg,zg,zc,zf,z1,zn,unN,ze,zk,zb,GS,simprocAttr,c,hget,zi,hb];rw[hpb];rfl
theorem Xo (f:Nat)(p:UInt8→Bool)(hp:∀ b:UInt8,zr (EV prog pol) f [.t (.int .u8 (b.toNat:Int))]=some (.t (.bool (p b))))(s:Str)(hl:s.length≤9223372036854775807) :
 zr (EV prog pol) 172 [.t (.str s),.t (.fn f [])]=some (.t (.bool (s.all p))):=by
 have IH:=RF f p hp s hl s [] rfl;simp only[List.length_nil,Int.natCast_zero]at IH;apply zu;refine zx rfl func172 rfl (by kernel_rfl) ?_;unfold Tryz.f172
 cases hb:s.all p with
 | true=>rw[hb]at IH;simp only[cond_true]at IH;simp only[↓GO,↓DRW,GA,GX,ren,zj,za,refs,z7,cst,zm,isC,bin,una,z6,zd,blt,asArg,zg,zc,zf,z1,zn,unN,ze,zk,zb,GS,simprocAttr,IH]
 | false=>rw[hb]at IH;simp only[cond_false]at IH;simp only[↓GO,↓DRW,GA,GX,ren,zj,za,refs,z7,cst,zm,isC,bin,una,z6,zd,blt,asArg,zg,zc,zf,z1,zn,unN,ze,zk,zb,GS,simprocAttr,IH]
end Go.Proofs.YtefkoljdebekdaaGreatDoor
/- Texts cut at a byte; names; plain texts. Plain. Conditions: none. -/
namespace Go.Proofs.YtefkoljdebekdaaGreatDoor
open Go.Proofs.Tryz
theorem km (b:UInt8)(s:Str):Lib.index (b::s) [b]=0:=by rw[Lib.index];simp[List.isPrefixOf]
theorem mD (x b:UInt8)(s:Str)(h:x≠b):Lib.index (x::s) [b]=if Lib.index s [b]==-1 then -1 else Lib.index s [b]+1:=by
 have hp:([b]:List UInt8).isPrefixOf (x::s)=false:=by simp[List.isPrefixOf,Ne.symm h]
 rw[Lib.index,hp];simp
theorem qe (b:UInt8):∀ s:Str,x8 b s≠[]
 | []=>by simp[x8]
 | x::s=>by
  unfold x8
  split
  · simp
  · split<;>simp
theorem uK (b:UInt8)(s:Str):x8 b (b::s)=[]::x8 b s:=by rw[x8,if_pos rfl]
theorem vf (b x:UInt8)(s p:Str)(r:List Str)(h:x≠b)(e:x8 b s=p::r):x8 b (x::s)=(x::p)::r:=by
 rw[x8,if_neg h,e]
theorem ig (b:UInt8):∀ s:Str,Lib.split s [b]=x8 b s
 | []=>by
  unfold Lib.split;rw[Lib.count_miss (by simp[Lib.index])];rfl
 | x::s=>by
  have ih:=ig b s;unfold Lib.split at ih ⊢
  by_cases h:x=b
  · subst h;rw[Lib.count_cons_eq,Nat.add_comm,Lib.splitK,km,uK];simpa using ih
  · rw[Lib.count_cons_ne x b s h]
    by_cases hm:Lib.index s [b] = -1
    · rw[Lib.count_miss hm]at ih ⊢;rw[Lib.splitK]at ih ⊢;exact (vf b x s s [] h ih.symm).symm
    · have hge:=Lib.index_ge s [b];obtain⟨j,hj⟩:∃ j:Nat,Lib.index s [b]=j:=⟨(Lib.index s [b]).toNat,by omega⟩;rw[Lib.count_hit (by simp) hj,Nat.add_comm]at ih ⊢;have hb:(((j:Nat):Int)==-1)=false:=by rw[beq_eq_false_iff_ne];omega
      have hb2:(((j:Nat):Int)+1==-1)=false:=by rw[beq_eq_false_iff_ne];omega
      rw[Lib.splitK,hj,hb]at ih;rw[Lib.splitK,mD x b s h,hj,hb];simp only[Bool.false_eq_true,if_false,hb2,Int.toNat_natCast,Nat.add_zero,List.length_cons,List.length_nil,Nat.zero_add]at ih ⊢;rw[show ((j:Int)+1).toNat=j+1 by omega];rw[List.take_succ_cons,List.drop_succ_cons];exact (vf b x s _ _ h ih.symm).symm
def yi (b:UInt8):Str→Str×Str×Bool
 | []=>([],[],false)
 | x::s=>if x=b then ([],s,true) else (x::(yi b s).1,(yi b s).2.1,(yi b s).2.2)
theorem bx (b:UInt8):∀ s:Str,Lib.cut s [b]=yi b s
 | []=>by simp[Lib.cut,yi,Lib.index]
 | x::s=>by
  have ih:=bx b s
  by_cases h:x=b
  · subst h;unfold Lib.cut;rw[km,yi,if_pos rfl];simp
  · rw[yi,if_neg h,← ih];unfold Lib.cut;rw[mD x b s h];have hge:=Lib.index_ge s [b]
    by_cases hm:Lib.index s [b] = -1
    · rw[hm];simp
    · obtain⟨j,hj⟩:∃ j:Nat,Lib.index s [b]=j:=⟨(Lib.index s [b]).toNat,by omega⟩;have hb:(((j:Nat):Int)==-1)=false:=by rw[beq_eq_false_iff_ne];omega
      rw[hj,hb];simp only[Bool.false_eq_true,if_false];rw[if_pos (by omega),if_pos (by omega),show ((j:Int)+1).toNat=j+1 by omega];simp only[List.take_succ_cons,Int.toNat_natCast];rw[show j+1+[b].length=(j+[b].length)+1 by simp,List.drop_succ_cons]
theorem lz (b:UInt8):∀ s:Str,s=(yi b s).1++cond (yi b s).2.2 (b::(yi b s).2.1) []
 | []=>rfl
 | x::s=>by
  rw[yi]
  split
  · rename_i h;rw[h];rfl
  · have:=lz b s
    show x::s=(x::(yi b s).1)++_
    rw[List.cons_append,← this]
theorem bA (b:UInt8):∀ s:Str,b∉(yi b s).1
 | []=>by simp[yi]
 | x::s=>by
  rw[yi]
  split
  · simp
  · rename_i h;have:=bA b s;simp only[List.mem_cons,not_or];exact⟨Ne.symm h,this⟩
theorem kC (b:UInt8):∀ s:Str,(yi b s).2.2=false→(yi b s).2.1=[]
 | [],_=>rfl
 | x::s,h=>by
  rw[yi]at h ⊢
  split at h
  · simp at h
  · rename_i hx;rw[if_neg hx];exact kC b s h
theorem bB (b:UInt8)(t:Str):∀ s:Str,b∉s→yi b (s++b::t)=(s,t,true)
 | [],_=>by simp[yi]
 | x::s,h=>by
  simp only[List.mem_cons,not_or]at h;rw[List.cons_append,yi,if_neg (Ne.symm h.1),bB b t s h.2]
theorem bz (b:UInt8)(t:Str):∀ s:Str,x8 b (s++b::t)=x8 b s++x8 b t
 | []=>by rw[List.nil_append,uK];rfl
 | x :: s => by
  have ih:=bz b t s;rw[List.cons_append]
  by_cases h:x=b
  · subst h;rw[uK,uK,ih];rfl
  · cases hc:x8 b s with
    | nil=>exact absurd hc (qe b s)
    | cons p r =>
     rw[hc]at ih;rw[vf b x s p r h hc,vf b x _ p (r++x8 b t) h ih];rfl
def ql:Str:=[110,111,100,101,95,109,111,100,117,108,101,115]
def uT (b:UInt8):Bool:=B2 (nb b) 97 122||B2 (nb b) 48 57||nb b==46||nb b==95||nb b==45
def mW (s:Str):Bool:=([64]:Str).isPrefixOf s
def xm (s:Str):Str:=match s with
 | []=>[]
 | x::r=>if x=64 then r else x::r
def uL (sc:Bool):List Str→Bool
 | []=>true
 | p::r=>(!((p==[])||((p==ql)&&!sc)||!(p.all uT)))&&uL false r
def rG (s:Str):Bool:=uL (mW s) (x8 47 (xm s))&&decide ((s.length:Int)≤60)
def jD:List Str→Bool
 | []=>true
 | p::r=>(!(p==ql)&&(p.all uT&&!(p==[])))&&jD r
def pD:List Str→Bool
 | []=>true
 | p::r=>(!(p==ql)&&((xm p).all uT&&!(xm p==[])))&&jD r
theorem rM:∀ r:List Str,jD r=uL false r
 | []=>rfl
 | p::r=>by
  rw[jD,uL,rM r]
  cases (p==[])<;>cases (p==ql)<;>cases (p.all uT)<;>rfl
theorem XN (s:Str):(pD (x8 47 s)&&decide ((s.length:Int)≤60))=rG s:=by
 unfold rG
 congr 1
 cases s with
 | nil=>rfl
 | cons x t =>
  cases hc:x8 47 t with
  | nil=>exact absurd hc (qe 47 t)
  | cons p r =>
   by_cases h64:x=64
   · subst h64;rw[vf 47 64 t p r (by decide) hc];have h1:mW (64::t)=true:=by simp[mW,List.isPrefixOf]
     have h2:xm (64::t)=t:=by simp[xm]
     have h3:xm (64::p)=p:=by simp[xm]
     have h4:(((64:UInt8)::p)==ql)=false:=by simp[ql]
     rw[h1,h2,hc,pD,uL,h3,h4,rM]
     cases (p==[])<;>cases (p==ql)<;>cases (p.all uT)<;>rfl
   · have h1:mW (x::t)=false:=by simp[mW,List.isPrefixOf];exact fun h=>h64 h.symm
     have h2:xm (x::t)=x::t:=by simp[xm,h64]
     rw[h1,h2]
     by_cases h47:x=47
     · subst h47;rw[uK,pD,uL,rM];rfl
     · rw[vf 47 x t p r h47 hc,pD,uL,rM];have h3:xm (x::p)=x::p:=by simp[xm,h64]
       rw[h3]
       cases ((x::p)==[])<;>cases ((x::p)==ql)<;>cases ((x::p).all uT)<;>rfl
def pC (b:UInt8):Bool:=B2 (nb b) 33 126&&(!(nb b==34)&&(!(nb b==39)&&(!(nb b==44)&&!(nb b==92))))
def sA (s:Str):Bool:=s.all pC&&decide ((s.length:Int)≤100)
def isD (c:UInt8):Bool:=decide (48≤c.toNat)&&decide (c.toNat≤57)
def px (a:Nat)(c:UInt8):Nat:=a*10+(c.toNat - 48)
def tD (acc:Nat)(l:List UInt8):Nat:=l.foldl px acc
theorem kL (acc:Nat):tD acc []=acc:=rfl
theorem nd (acc:Nat)(c:UInt8)(l:List UInt8):tD acc (c::l)=tD (px acc c) l:=by
 unfold tD;rw[List.foldl_cons]
theorem jY (c:UInt8)(l:List UInt8)(acc:Nat):tD acc (l++[c])=px (tD acc l) c:=by
 unfold tD;rw[List.foldl_append,List.foldl_cons,List.foldl_nil]
theorem oM (c:UInt8):isD c=true↔48≤c.toNat∧c.toNat≤57:=by simp[isD]
theorem Zo (acc:Nat)(c:UInt8)(h:isD c=true):px acc c+1≤(acc+1)*10:=by
 have:=(oM c).1 h;unfold px;omega
theorem lT (n m:Nat):m*10 ^ (n+1)=m*10*10 ^ n:=by rw[Nat.pow_succ,Nat.mul_comm (10 ^ n) 10,Nat.mul_assoc]
theorem lb:∀ (l:List UInt8) (acc:Nat),l.all isD=true→tD acc l<(acc+1)*10 ^ l.length
 | [],acc,_=>by rw[kL];simp
 | c::l,acc,h=>by
  rw[List.all_cons,Bool.and_eq_true]at h;have ih:=lb l (px acc c) h.2;rw[nd,List.length_cons,lT];exact Nat.lt_of_lt_of_le ih (Nat.mul_le_mul_right _ (Zo acc c h.1))
theorem gr {d:Nat}(h:d<10):(UInt8.ofNat (48+d)).toNat=48+d:=by
 simp[UInt8.toNat_ofNat'];omega
theorem td (u:Nat):(Lib.decDigits u).all isD=true∧tD 0 (Lib.decDigits u)=u∧Lib.decDigits u≠[]:=by
 induction u using Nat.strongRecOn with
 | _ u ih =>
  rw[Lib.decDigits]
  split
  · rename_i h;have:=gr h;refine⟨?_,?_,by simp⟩
    · rw[List.all_cons,List.all_nil,Bool.and_true,oM,this];omega
    · rw[nd,kL,px,this];omega
  · rename_i h;obtain⟨h1,h2,h3⟩:=ih (u / 10) (by omega);have:=gr (d:=u % 10) (by omega);refine⟨?_,?_,by simp⟩
    · rw[List.all_append,h1,List.all_cons,List.all_nil,Bool.and_true,Bool.true_and,oM,this];omega
    · rw[jY,h2,px,this];omega
theorem pI:∀ (l:List UInt8) (acc:Nat),l.all isD=true→(acc+1)*10 ^ l.length≤1000000000000000000→Lib.parseUint10 acc l=.ok (tD acc l)
 | [],acc,_,_=>rfl
 | c::l,acc,h,hb=>by
  rw[List.all_cons,Bool.and_eq_true]at h;have hp:0<10 ^ l.length:=Nat.pos_of_ne_zero (by intro h;simp at h);rw[List.length_cons,lT]at hb;have h10:(acc+1)*10≤1000000000000000000:=Nat.le_trans (Nat.le_mul_of_pos_right _ hp) hb;have hc:=(oM c).1 h.1;have ih:=pI l (px acc c) h.2 (Nat.le_trans (Nat.mul_le_mul_right _ (Zo acc c h.1)) hb);rw[Lib.parseUint10,if_pos hc,if_neg (by omega),if_neg (by omega),nd,← ih];rfl
theorem my:∀ (k u:Nat),1≤k→u<10 ^ k→Lib.nDigits u≤k
 | 0,u,h,_=>by omega
 | k + 1, u, _, h => by
  rw[Lib.nDigits]
  split
  · omega
  · have h10:u / 10<10 ^ k:=by rw[Nat.pow_succ]at h;omega
    have hk:1≤k:=by
     rcases Nat.eq_zero_or_pos k with rfl|h
     · simp at h10;omega
     · exact h
    have:=my k (u / 10) hk h10;omega
theorem sT {u:Nat}(h:u≤999999999):(Lib.decDigits u).length≤9:=by
 rw[Lib.decDigits_length];exact my 9 u (by omega) (by omega)
theorem dn {u:Nat}(h:u≤999999999):Lib.atoiAll (Lib.decDigits u)=.ok (u:Int):=by
 obtain⟨h1,h2,h3⟩:=td u;have hl:=sT h;generalize Lib.decDigits u=l at *
 cases l with
 | nil=>exact absurd rfl h3
 | cons c r =>
  have hc:isD c=true:=by simp only[List.all_cons,Bool.and_eq_true]at h1;exact h1.1
  simp only[isD,Bool.and_eq_true,decide_eq_true_eq]at hc;have hp:Lib.parseMag (c::r)=.ok u:=by
   unfold Lib.parseMag;have:(10:Nat) ^ (c::r).length≤10 ^ 9:=Nat.pow_le_pow_right (by omega) hl;have e9:(10:Nat) ^ 9=1000000000:=by decide
   rw[if_neg (by simp),pI _ 0 h1 (by omega),h2]
  unfold Lib.atoiAll;simp only;rw[if_neg (by omega),hp];simp only;rw[if_neg (by omega),if_neg (by omega),if_neg (by omega)]
def zN (s:List UInt8):Int :=
 match Lib.atoiAll s with
 | .ok v=>cond ((decide (0≤v)&&decide (v≤999999999))&&(Lib.itoa v==s)) v (-1)
 | _=>-1
def q8 (s:List UInt8):Int:=cond ((s.all isD&&decide (s.length≤9))&&(!(s==[])&&(Lib.itoa (tD 0 s:Nat)==s))) (tD 0 s:Nat) (-1)
theorem iu {u:Nat}(h:u≤999999999):zN (Lib.decDigits u)=u∧q8 (Lib.decDigits u)=u:=by
 obtain⟨h1,h2,h3⟩:=td u;have hl:=sT h;refine⟨?_,?_⟩
 · unfold zN;rw[dn h];simp only;rw[Lib.itoa_nonneg];have e1:decide ((0:Int)≤(u:Int))=true:=by simp
   have e2:decide ((u:Int)≤999999999)=true:=by simp;omega
   rw[e1,e2];simp
 · unfold q8;rw[h1,h2,Lib.itoa_nonneg];have e1:decide ((Lib.decDigits u).length≤9)=true:=by simpa using hl
   have e2:(Lib.decDigits u==[])=false:=by simpa using h3
   rw[e1,e2];simp
theorem XH {s:List UInt8}(h:∀ u,u≤999999999→s≠Lib.decDigits u):zN s = -1∧q8 s = -1:=by
 refine⟨?_,?_⟩
 · unfold zN
   split
   · rename_i v hv
     cases hc:((decide (0≤v)&&decide (v≤999999999))&&(Lib.itoa v==s)) with
     | false=>rfl
     | true =>
      simp only[Bool.and_eq_true,decide_eq_true_eq]at hc;obtain⟨⟨c1,c2⟩,c3⟩:=hc;obtain⟨u,rfl⟩:∃ u:Nat,v=u:=⟨v.toNat,by omega⟩;rw[Lib.itoa_nonneg]at c3;exact absurd (eq_of_beq c3).symm (h u (by omega))
   · rfl
 · unfold q8
   cases hc:((s.all isD&&decide (s.length≤9))&&(!(s==[])&&(Lib.itoa (tD 0 s:Nat)==s))) with
   | false=>rfl
   | true =>
    simp only[Bool.and_eq_true,decide_eq_true_eq]at hc;obtain⟨⟨c1,c2⟩,c3,c4⟩:=hc;rw[Lib.itoa_nonneg]at c4;have hv:=lb s 0 c1;have:(10:Nat) ^ s.length≤10 ^ 9:=Nat.pow_le_pow_right (by omega) c2;have e9:(10:Nat) ^ 9=1000000000:=by decide
    exact absurd (eq_of_beq c4).symm (h _ (by omega))
theorem Xv (s:List UInt8):q8 s=zN s:=by
 by_cases h:∃ u,u≤999999999∧s=Lib.decDigits u
 · obtain⟨u,hu,rfl⟩:=h;obtain⟨h1,h2⟩:=iu hu;rw[h1,h2]
 · obtain⟨h1,h2⟩:=XH (s:=s) fun u hu he=>h ⟨u,hu,he⟩
   rw[h1,h2]
end Go.Proofs.YtefkoljdebekdaaGreatDoor

/- Joined: X2 X3 X4 X6 LT TY X5 S0 W6 E22 J1 P1 V1 N1. Conditions: those of each lemma. -/
import Derived.Test.YtefkoljdebekdaaGreatDoorlH
import Derived.Lib.SortBridge
import Derived.Shelf.Sort.Plain
import Derived.Shelf.Slices.In.SortNone
import Derived.Shelf.Slices.CompactS
import Derived.KernelRfl
import Derived.Test.YtefkoljdebekdaaGreatDoorProg
import Derived.Test.YtefkoljdebekdaaGreatDoorlA
import Derived.Test.YtefkoljdebekdaaGreatDoorCards
import Derived.Test.YtefkoljdebekdaaGreatDoorTie
import Derived.WalkKit
import Derived.ProofKit
import Derived.OpenShut
import Derived.Deep.DeepHandedRow
import Derived.Lib.LaidTab
import Derived.Stop.LaidErr
import Derived.Lib.SplitLaws
import Derived.Lib.ItoaMem
import Derived.Lib.AtoiAll
set_option linter.unusedVariables false
set_option linter.unusedSimpArgs false
set_option maxRecDepth 100000
namespace Go.Proofs.YtefkoljdebekdaaGreatDoor
open Go.Proofs.Tryz
open E
def strsOf:List (List T)→Option (List Str)
 | []=>some []
 | c::r=>match c with
  | [.str l]=>(match strsOf r with|some ks=>some (l::ks)|none=>none)
  | _=>none
theorem ub:∀ ks:List Str,strsOf (strs ks)=some ks
 | []=>rfl
 | k::ks=>by
  have:=ub ks;simp only[strs]at this;simp only[strs,List.map_cons,strsOf,this]
theorem tZ:∀ {es:List (List T)} {ks:List Str},strsOf es=some ks→es=strs ks
 | [],ks,h=>by simp only[strsOf]at h;cases h;rfl
 | c::r,ks,h=>by
  simp only[strsOf]at h
  split at h
  · split at h
    · rename_i ks' hk;cases h;rw[tZ hk];rfl
    · cases h
  · cases h
def WD:List V→Option V
 | [.t (.list 1 es),.t (.str sep)]=>match strsOf es with
  | some ks=>if ks.length≤140737488355328∧(Lib.join ks sep).length≤140737488355328 then some (.t (.str (Lib.join ks sep))) else none
  | none=>none
 | _=>none
def nk:List V→Option V
 | [.t (.str a),.t (.str b)]=>some (.t (.int .i64 (Lib.compareBytes a b)))
 | _=>none
def WE:List V→Option V
 | [.t (.int .i64 n)]=>if -9223372036854775808≤n∧n≤9223372036854775807 then some (.t (.str (Lib.itoa n))) else none
 | _=>none
def WN:List V→Option V
 | [.t (.str s)]=>if s.length≤281474976710656 then (match Lib.atoiAll s with
  | .ok v=>some (.tup [.t (.int .i64 v),.t .nili])
  | Lib.NumEnd.syntax=>some (.tup [.t (.int .i64 0),.t .nni])
  | .range=>some (.tup [.t (.int .i64 (Lib.atoiSat s)),.t .nni])) else none
 | _=>none
def Pb:List V→Option V
 | [.t (.str s),.t (.str sep)]=>if s.length<4294967281 then some (.tup [.t (.str (Lib.cut s sep).1),.t (.str (Lib.cut s sep).2.1),.t (.bool (Lib.cut s sep).2.2)]) else none
 | _=>none
def qg (s sep:Str):List Str:=(Lib.splitB ⟨sep.toArray⟩ 0 (Lib.countB ⟨s.toArray⟩ ⟨sep.toArray⟩) ⟨s.toArray⟩).map (·.data.toList)
def dF:List V→Option V
 | [.t (.str s),.t (.str sep)]=>if s.length<4294967281∧1≤sep.length then some (.t (.list 1 (strs (qg s sep)))) else none
 | _=>none
theorem RA {w:World}{F:Nat→Prop}{u:Value}{ks:List Str}(h:RT w F u (.list 1 (strs ks))) :
 ∃ a c,u=.slice a ks.length c∧ks.length≤c∧(0<ks.length→∃ b o,a=some ⟨b,o,none⟩∧F b∧∀ (j:Nat) x,(ks.map fun l=>(⟨l.toArray⟩:ByteArray))[j]? = some x→w.cell? ⟨b,o+j,none⟩=some (.string x)):=by
 cases h with
 | list a n c sz es g hn hc h0 hz hr =>
  rw[zn]at hn;subst hn;refine⟨a,c,rfl,hc,fun hp=>?_⟩;obtain⟨b,o,e1,e2,e3⟩:=h0 hp;refine⟨b,o,e1,e2,fun j x hj=>?_⟩;have hjl:j<ks.length:=by have:=(List.getElem?_eq_some_iff.1 hj).1;simpa using this
  have h1:=e3 j 0 hjl (by omega);have h2:=hr j 0 [.str ks[j]] (.str ks[j]) (rR ks j hjl) rfl;rw[show o+(j*1+0)=o+j by omega]at h1;rw[h1];generalize g j 0=gv at h2
  cases h2 with
  | str s _ hs =>
   simp[hjl]at hj;rw[← hj,← hs]
theorem uI {w w':World}{F:Nat→Prop}(h:Go.RowKit.Below w.heap.size w w')(hF:∀ b,F b→b<w.heap.size):(∀ b,F b→b<w'.heap.size)∧Nxt (own fun b=>w.heap.size≤b) w F zP w' F zP :=
 ⟨fun b hb=>Nat.lt_of_lt_of_le (hF b hb) h.size,⟨h.os,h.tape,h.output,h.size,fun b hb _=>h.block b hb,fun b hb=>h.block b (hF b hb),fun _ hb=>hb,fun _ hb=>.inl hb,Ext.refl _,fun _ _=>rfl⟩⟩
def eJ (W0:World)(g:Nat)(e:List V→Option V):Prop:=∀ args v,e args=some v →
 (∃ fn, prog.funcs[g]? = some fn ∧ (fn.name == "runtime.NumGoroutine") = false ∧ fn.body.isNone = false) ∧
 ∀ (w:World) (F:Nat→Prop) (us:Array Value),vQ W0 w F→(∀ b,F b→b<w.heap.size)→RVs w F zP us.toList args →
  Calls prog g us w fun e w'=>∃ u F',e=.returned u∧RV w' F' zP u v∧(∀ b,F' b→b<w'.heap.size)∧Nxt (own fun b=>w.heap.size≤b) w F zP w' F' zP
theorem Qb (W0 : World) : eJ W0 191 WD := by
 intro args v hv';unfold WD at hv'
 split at hv'
 · rename_i es sep
   split at hv'
   · rename_i ks hks
     split at hv'
     · rename_i hl
       cases hv';obtain rfl:=tZ hks;refine⟨⟨Tryz.f191,func191,by kernel_rfl,by kernel_rfl⟩,fun w F us hB hF hu=>?_⟩;obtain⟨us⟩:=us
       change RVs w F zP us _ at hu
       cases hu with
       | cons h1 h2 =>
       cases h2 with
       | cons h2 h3 =>
       cases h3;obtain⟨s,rfl,hs⟩:=r9 h2;obtain⟨a,c,rfl,hc,h0⟩:=RA (P5 h1);have hfin:∀ (e:Ending) (w':World),(e=.returned (.string ⟨(Lib.join ks sep).toArray⟩)∧Go.RowKit.Below w.heap.size w w')→∃ u F',e=.returned u∧RV w' F' zP u (.t (.str (Lib.join ks sep)))∧(∀ b,F' b→b<w'.heap.size)∧Nxt (own fun b=>w.heap.size≤b) w F zP w' F' zP:=by
        rintro e w' ⟨rfl,hb⟩
        obtain⟨k1,k2⟩:=uI hb hF;exact⟨_,F,rfl,.t _ _ (.str _ _ (by simp)),k1,k2⟩
       by_cases hk:ks.length=0
       · have hk':ks=[]:=List.eq_nil_of_length_eq_zero hk;subst hk';refine (Tryz.join_none a c s w).mono fun e w' ⟨h1,h2⟩=>hfin e w' ⟨?_,?_⟩
         · rw[h1];rfl
         · rw[h2];exact Go.RowKit.Below.refl _ _
       · obtain⟨b,o,rfl,hb,hcell⟩:=h0 (by omega);have hmap:(ks.map fun l=>(⟨l.toArray⟩:ByteArray)).map (·.data.toList)=ks:=by
          rw[List.map_map];have:((fun x:ByteArray=>x.data.toList)∘fun l:List UInt8=>(⟨l.toArray⟩:ByteArray))=id:=by funext l;simp
          rw[this];simp
         have:=Tryz.join_some b o c (ks.map fun l=>(⟨l.toArray⟩:ByteArray)) s w hcell (hF b hb) (by simpa using hl.1) (by simpa using hc) (by rw[hmap,hs];exact hl.2);rw[hmap,hs,List.length_map]at this;exact this.mono fun e w' h=>hfin e w' h
     · cases hv'
   · cases hv'
 · cases hv'
theorem ZU (W0:World):eJ W0 194 nk:=by
 intro args v hv';unfold nk at hv'
 split at hv'
 · rename_i a b
   cases hv';refine⟨⟨Tryz.f194,func194,by kernel_rfl,by kernel_rfl⟩,fun w F us hB hF hu=>?_⟩;obtain⟨us⟩:=us
   change RVs w F zP us _ at hu
   cases hu with
   | cons h1 h2 =>
   cases h2 with
   | cons h2 h3 =>
   cases h3;obtain⟨s1,rfl,hs1⟩:=r9 h1;obtain⟨s2,rfl,hs2⟩:=r9 h2;refine (Tryz.Uk s1 s2 w).mono fun e w' h=>?_
   obtain⟨rfl,rfl⟩:=h;rw[hs1,hs2];exact⟨_,F,rfl,.t _ _ (.int _ _),hF,Nxt.refl _ _ _ _⟩
 · cases hv'
theorem Y2 (w:World)(k:Nat)(os:Array Obj):Go.RowKit.Below w.heap.size w (Go.Sort.grow (w.drewN k) os) :=
 ⟨rfl,rfl,rfl,by simp[Go.Sort.grow],fun b hb=>by simp[Go.Sort.grow,Array.getElem?_append_left hb]⟩
theorem VZ {W0 w:World}{F:Nat→Prop}{n:String}{k:IntKind}{zs:List Int}(hB:vQ W0 w F)(h:Lib.TabIs prog W0 n k zs):Lib.TabIs prog w n k zs:=by
 unfold Lib.TabIs World.var? at *
 cases hg:Tryz.prog.globalNamed n with
 | none=>simp[hg]at h
 | some g =>
  simp only[hg,Option.bind_some]at h ⊢;have hlt:g<W0.heap.size:=by
   refine Nat.lt_of_not_le fun hc=>?_
   rw[Array.getElem?_eq_none hc]at h
   cases h
  rw[hB.heap g hlt];exact h
theorem Qd (W0 : World) (hT : Lib.TabIs prog W0 "internal/strconv.uint64pow10" .u64 Lib.pow10Tab) : eJ W0 227 WE := by
 intro args v hv';unfold WE at hv'
 split at hv'
 · rename_i n
   split at hv'
   · rename_i hn
     cases hv';refine⟨⟨Tryz.f227,func227,by kernel_rfl,by kernel_rfl⟩,fun w F us hB hF hu=>?_⟩;obtain⟨us⟩:=us
     change RVs w F zP us _ at hu
     cases hu with
     | cons h1 h2 =>
     cases h2
     cases h1 with
     | t _ _ h1 =>
     cases h1;refine (Tryz.itoa n hn.1 hn.2 w (VZ hB hT)).mono fun e w' h=>?_
     obtain⟨rfl,k,os,rfl⟩:=h;obtain⟨k1,k2⟩:=uI (Y2 w k os) hF;exact⟨_,F,rfl,.t _ _ (.str _ _ (by simp)),k1,k2⟩
   · cases hv'
 · cases hv'
theorem cS {W0 w:World}{F:Nat→Prop}{n:String}{cs:Array Value}(hB:vQ W0 w F)(h:W0.var? prog n=some cs):w.var? prog n=some cs:=by
 unfold World.var? at *
 cases hg:Tryz.prog.globalNamed n with
 | none=>simp[hg]at h
 | some g =>
  simp only[hg,Option.bind_some]at h ⊢;have hlt:g<W0.heap.size:=by
   refine Nat.lt_of_not_le fun hc=>?_
   rw[Array.getElem?_eq_none hc]at h
   cases h
  rw[hB.heap g hlt];exact h
theorem Y8 {w:World}{F:Nat→Prop}{ρ:yc}{u1 u2:Value}{x1 x2:T}(h1:RT w F u1 x1)(h2:RT w F u2 x2):RV w F ρ (.tuple #[u1,u2]) (.tup [.t x1,.t x2]):=by
 refine .tup _ _ (fun j=>if j=0 then u1 else u2) rfl (fun j hj=>?_) fun j x hj=>?_
 · match j,hj with
   | 0,_=>rfl
   | 1,_=>rfl
 · match j,hj with
   | 0,hj=>cases hj;exact .t _ _ h1
   | 1,hj=>cases hj;exact .t _ _ h2
   | j+2,hj=>simp at hj
theorem QT (W0 : World) (hS : ∃ tp p, W0.var? prog "strconv.ErrSyntax" = some #[.iface tp p]) (hR : ∃ tp p, W0.var? prog "strconv.ErrRange" = some #[.iface tp p]) : eJ W0 188 WN := by
 intro args v hv';unfold WN at hv'
 split at hv'
 · rename_i l
   split at hv'
   · rename_i hl;refine⟨⟨Tryz.f188,func188,by kernel_rfl,by kernel_rfl⟩,fun w F us hB hF hu=>?_⟩;obtain⟨us⟩:=us
     change RVs w F zP us _ at hu
     cases hu with
     | cons h1 h2 =>
     cases h2;obtain⟨s,rfl,hs⟩:=r9 h1;have hsz:s.size≤281474976710656:=by
      have:s.data.toList.length=s.size:=by simp
      rw[hs]at this;omega
     obtain⟨tS,pS,hS⟩:=hS;obtain⟨tR,pR,hR⟩:=hR
     split at hv'
     · rename_i n hn
       cases hv';refine (Tryz.QS s hsz n (by rw[hs];exact hn) w).mono fun e w' h=>?_
       obtain⟨rfl,hb⟩:=h;obtain⟨k1,k2⟩:=uI hb hF;exact⟨_,F,rfl,Y8 (.int _ _) .nili,k1,k2⟩
     · rename_i hn
       cases hv';refine (Tryz.Tk s hsz (by rw[hs];exact hn) tS pS w (cS hB hS)).mono fun e w' h=>?_
       obtain⟨t,z,rfl,hb⟩:=h;obtain⟨k1,k2⟩:=uI hb hF;exact⟨_,F,rfl,Y8 (.int _ _) (.nni t z),k1,k2⟩
     · rename_i hn
       cases hv';refine (Tryz.Tl s hsz (by rw[hs];exact hn) tR pR w (cS hB hR)).mono fun e w' h=>?_
       obtain⟨t,z,rfl,hb⟩:=h;obtain⟨k1,k2⟩:=uI hb hF;rw[hs];exact⟨_,F,rfl,Y8 (.int _ _) (.nni t z),k1,k2⟩
   · cases hv'
 · cases hv'
theorem fV {W0 w:World}{F:Nat→Prop}{a:Addr}{v:Value}(hB:vQ W0 w F)(h:W0.cell? a=some v):w.cell? a=some v:=by
 have hlt:a.block<W0.heap.size:=by
  refine Nat.lt_of_not_le fun hc=>?_
  simp[World.cell?,Array.getElem?_eq_none hc]at h
 unfold World.cell? at h ⊢;rw[hB.heap _ hlt];exact h
theorem below_drewN (w:World)(n:Nat):Go.RowKit.Below w.heap.size w (w.drewN n):=⟨rfl,rfl,rfl,Nat.le_refl _,fun _ _=>rfl⟩
theorem Un {w:World}{F:Nat→Prop}{ρ:yc}{u1 u2 u3:Value}{x1 x2 x3:T}(h1:RT w F u1 x1)(h2:RT w F u2 x2)(h3:RT w F u3 x3):RV w F ρ (.tuple #[u1,u2,u3]) (.tup [.t x1,.t x2,.t x3]):=by
 refine .tup _ _ (fun j=>if j=0 then u1 else if j=1 then u2 else u3) rfl (fun j hj=>?_) fun j x hj=>?_
 · match j,hj with
   | 0,_=>rfl
   | 1,_=>rfl
   | 2,_=>rfl
 · match j,hj with
   | 0,hj=>cases hj;exact .t _ _ h1
   | 1,hj=>cases hj;exact .t _ _ h2
   | 2,hj=>cases hj;exact .t _ _ h3
   | j+3,hj=>simp at hj
theorem Ou (W0:World)(hM:∃ m,W0.cell? ⟨Tryz.sG.g 1,0,none⟩=some (.int .i64 m)):eJ W0 125 Pb:=by
 intro args v hv';unfold Pb at hv'
 split at hv'
 · rename_i l lsep
   split at hv'
   · rename_i hl
     cases hv';refine⟨⟨Tryz.f125,func125,by kernel_rfl,by kernel_rfl⟩,fun w F us hB hF hu=>?_⟩;obtain⟨us⟩:=us
     change RVs w F zP us _ at hu
     cases hu with
     | cons h1 h2 =>
     cases h2 with
     | cons h2 h3 =>
     cases h3;obtain⟨s,rfl,hs⟩:=r9 h1;obtain⟨sep,rfl,hsep⟩:=r9 h2;have hsz:s.size<4294967281:=by
      have:s.data.toList.length=s.size:=by simp
      rw[hs]at this;omega
     obtain⟨m,hM⟩:=hM;refine (Any.strings_Cut { Tryz.bY with } s sep m w hsz (fV hB hM)).mono fun e w' h=>?_
     rw[hs,hsep]at h;obtain⟨rfl,n,rfl⟩:=h;obtain⟨k1,k2⟩:=uI (below_drewN w n) hF;exact⟨_,F,rfl,Un (.str _ _ (by simp)) (.str _ _ (by simp)) (.bool _),k1,k2⟩
   · cases hv'
 · cases hv'
theorem Vl (w:World)(F:Nat→Prop)(hF:∀ b,F b→b<w.heap.size)(t:TypeId)(ps:List ByteArray)(n:Nat)(hn:ps.length=n) :
 RT (w.alloc (.cells (ps.map Value.string).toArray t)) (fun b=>F b∨b=w.heap.size) (.slice (some ⟨w.heap.size,0,none⟩) n n) (.list 1 (strs (ps.map (·.data.toList)))):=by
 have hcell:∀ j,j<ps.length→(w.alloc (.cells (ps.map Value.string).toArray t)).cell? ⟨w.heap.size,j,none⟩=some (.string (ps.getD j ByteArray.empty)):=fun j hj=>by
  have ha:(w.alloc (.cells (ps.map Value.string).toArray t)).heap=w.heap.push (.cells (ps.map Value.string).toArray t):=rfl;unfold World.cell?;rw[ha];simp[hj,List.getD]
 generalize w.alloc (.cells (ps.map Value.string).toArray t)=w1 at *;refine RT.list (F:=fun b=>F b∨b=w.heap.size) (some ⟨w.heap.size,0,none⟩) n n 1 (strs (ps.map (·.data.toList))) (fun i _=>.string (ps.getD i ByteArray.empty)) (by rw[zn,List.length_map];exact hn) (Nat.le_refl _) (fun _=>⟨w.heap.size,0,rfl,Or.inr rfl,fun i j hi hj=>?_⟩) (fun e he=>?_) fun i j cs x hi hj=>?_
 · obtain rfl:j=0:=by omega
   rw[show 0+(i*1+0)=i by omega];exact hcell i (by omega)
 · simp only[strs,List.mem_map]at he;obtain⟨a,_,rfl⟩:=he;rfl
 · simp only[strs,List.map_map,List.getElem?_map,Option.map_eq_some_iff]at hi;obtain⟨a,ha,rfl⟩:=hi
   match j,hj with
   | 0,hj =>
    simp[Function.comp]at hj;subst hj;have:ps.getD i ByteArray.empty=a:=by simp[List.getD,ha]
    rw[this];exact .str _ _ rfl
   | j+1,hj=>simp at hj
theorem Vg (w:World)(F:Nat→Prop)(hF:∀ b,F b→b<w.heap.size)(o:Obj):(∀ b,(F b∨b=w.heap.size)→b<(w.alloc o).heap.size)∧Nxt (own fun b=>w.heap.size≤b) w F zP (w.alloc o) (fun b=>F b∨b=w.heap.size) zP:=by
 have ha:(w.alloc o).heap=w.heap.push o:=rfl;have hsz:(w.alloc o).heap.size=w.heap.size+1:=by rw[ha,Array.size_push]
 have hold:∀ b,b<w.heap.size→(w.alloc o).heap[b]? = w.heap[b]? := fun b hb=>by
  rw[ha,Array.getElem?_push_lt hb,Array.getElem?_eq_getElem hb]
 refine⟨fun b hb=>?_,rfl,rfl,rfl,by omega,fun b hb _=>hold b hb,fun b hb=>hold b (hF b hb),fun _ hb=>.inl hb,fun b hb=>?_,Ext.refl _,fun _ _=>rfl⟩
 · rcases hb with hb|rfl
   · have:=hF b hb;omega
   · omega
 · rcases hb with hb|rfl
   · exact .inl hb
   · exact .inr (Nat.le_refl _)
theorem U6 (W0:World)(hM:∃ m,W0.cell? ⟨Tryz.sF.g 1,0,none⟩=some (.int .i64 m)):eJ W0 126 dF:=by
 intro args v hv';unfold dF at hv'
 split at hv'
 · rename_i l lsep
   split at hv'
   · rename_i hl
     cases hv';refine⟨⟨Tryz.f126,func126,by kernel_rfl,by kernel_rfl⟩,fun w F us hB hF hu=>?_⟩;obtain⟨us⟩:=us
     change RVs w F zP us _ at hu
     cases hu with
     | cons h1 h2 =>
     cases h2 with
     | cons h2 h3 =>
     cases h3;obtain⟨s,rfl,hs⟩:=r9 h1;obtain⟨sep,rfl,hsep⟩:=r9 h2;have hsz:s.size<4294967281:=by
      have:s.data.toList.length=s.size:=by simp
      rw[hs]at this;omega
     have hsp:1≤sep.size:=by
      have:sep.data.toList.length=sep.size:=by simp
      rw[hsep]at this;omega
     obtain⟨m,hM⟩:=hM;refine (Any.strings_Split { Tryz.bX with } Tryz.bX.i9 s sep m w hsz (fV hB hM) hsp).mono fun e w' h=>?_
     have es:(⟨l.toArray⟩:ByteArray)=s:=by rw[← hs]
     have esep:(⟨lsep.toArray⟩:ByteArray)=sep:=by rw[← hsep]
     have hlen:=Lib.splitB_all sep hsp 0 (Lib.countB s sep) s rfl;unfold qg;rw[es,esep];obtain⟨rfl,rfl⟩:=h;generalize Lib.splitB sep 0 (Lib.countB s sep) s=ps at *;generalize Lib.countB s sep=n at *;obtain⟨k1,k2⟩:=Vg w F hF (.cells (ps.map Value.string).toArray (Tryz.sF.t 9));exact⟨_,fun b=>F b∨b=w.heap.size,rfl,.t _ _ (Vl w F hF _ ps (n+1) hlen),k1,k2⟩
   · cases hv'
 · cases hv'
def vv (ks:List Str):List Str:=ks.mergeSort fun x y=>decide (x≤y)
theorem kM (ks:List Str):(vv ks).Perm ks:=List.mergeSort_perm _ _
theorem nZ (ks:List Str):(vv ks).length=ks.length:=(kM ks).length_eq
def Wu (args:List V)(h:Heap):Option (V×Heap) :=
 match args,h with
 | [.sl 0 0 n cap],[.ts 1 es]=>match strsOf es with
  | some ks=>if n=ks.length∧ks.length≤1073741824 then some (.tup [],[.ts 1 (strs (vv ks))]) else none
  | none=>none
 | _,_=>none
variable {w:World} {F:Nat→Prop} {ρ:yc} {Ow:Own} {h:Heap}
theorem oY (hS:St w F ρ Ow h){w':World}(h1:w'.os=w.os)(h2:w'.tape=w.tape)(h3:w'.output=w.output)(h4:w.heap.size≤w'.heap.size)(h5:∀ b,b<w.heap.size→w'.heap[b]? = w.heap[b]?):St w' F ρ Ow h∧Nxt Ow w F ρ w' F ρ:=by
 have hN:Nxt Ow w F ρ w' F ρ:=⟨h1,h2,h3,h4,fun b hb _=>h5 b hb,fun b hb=>h5 b (hS.fsz b hb),fun _ x=>x,fun _ x=>.inl x,Ext.refl _,fun _ _=>rfl⟩;refine⟨hS.next hN hS.out (fun b hb=>Nat.lt_of_lt_of_le (hS.fsz b hb) h4) (fun r b hr=>.inl ⟨hr,fun L hL hw=>⟨h5 _ ((hS.blk r b hr).ue hw hL).2.2,((hS.blk r b hr).ue hw hL).1⟩⟩)
  (hS.owned hN (fun b _ hF hlt _=>⟨h5 b hlt,hF⟩) (fun r i j x ho=>⟨ho,fun L u hL hu=>?_⟩) fun r b L hr hw hL=>.inr (hS.same (Ext.refl _) hr hw hL)),hN⟩
 obtain⟨c,el',fr,q1,q2⟩:=hu;exact⟨c,el',fr,(h5 _ (Array.getElem?_eq_some_iff.1 q1).1).trans q1,q2⟩
theorem Tryz.ZD (p:Option Addr)(cap:Nat)(w:World):Calls prog 163 #[.slice p 0 cap] w fun e w'=>e=.returned (.tuple #[])∧w'=w:=Any.slices_Sort_string_none Tryz.Xj p cap w
theorem Tryz.ssort (blk off cap:Nat)(ss:List (List UInt8))(w:World)(hH:Go.Sort.Holds encStr w blk off ss.toArray)(hblk:blk<w.heap.size)(hsz:ss.length<4611686018427387904) :
 Calls prog 163 #[.slice (some ⟨blk,off,none⟩) ss.length cap] w fun e w' =>
  e=.returned (.tuple #[])∧∃ n os,w'=Go.Sort.grow (Go.Sort.putRow encStr (Go.Sort.ahead w n) blk off (ss.mergeSort fun x y=>decide (x≤y)).toArray) os:=Any.slices_Sort_string Tryz.Xj blk off cap ss w hH hblk hsz
theorem Rt (W0 : World) : ov prog W0 163 Wu := by
 intro args h v h' hv;unfold Wu at hv
 split at hv
 · rename_i n cap es
   split at hv
   · rename_i ks hks
     split at hv
     · rename_i hn;obtain⟨hn,hlim⟩:=hn
       cases hv;obtain rfl:=tZ hks;refine⟨⟨Tryz.f163,func163,by kernel_rfl,by kernel_rfl⟩,fun Ow w F ρ us hB hS hO hu=>?_⟩;obtain⟨us⟩:=us
       change RVs w F ρ us _ at hu
       cases hu with
       | cons h1 h2 =>
       cases h2;subst hn;have htup':∀ {w':World},RV w' F ρ (.tuple #[]) (.tup []):=.tup _ _ (fun _=>undef) rfl (fun j hj=>by simp at hj) fun j x hj=>by simp at hj
       have htup:RV w F ρ (.tuple #[]) (.tup []):=htup';have none_case:ks=[]→∀ (a:Option Addr) (c:Nat),Calls prog 163 #[.slice a 0 c] w fun e w'=>∃ u F' ρ',e=.returned u∧RV w' F' ρ' u (.tup [])∧St w' F' ρ' Ow [.ts 1 (strs (vv ks))]∧Nxt Ow w F zP w' F' zP∧∀ r l,r<1→ρ r=some l→ρ' r=some l:=fun hk a c=>by
        subst hk;refine (Tryz.ZD a c w).mono fun e w' hp=>?_
        obtain⟨rfl,rfl⟩:=hp;exact⟨_,F,ρ,rfl,htup,by rw[show vv []=[] by simp[vv]];exact hS,Nxt.refl _ _ _ _,fun _ _ _ hl=>hl⟩
       generalize hkl:ks.length=kl at h1
       cases h1 with
       | slP r cap a hρ hc=>exact none_case (List.eq_nil_of_length_eq_zero hkl) a 0
       | sl r off len cap L a c hρ ha hl hnn hc0 hc1 hz =>
        by_cases hk0:ks=[]
        · subst hk0;simp at hkl;subst hkl;exact none_case rfl a c
        · have hpos:0<ks.length:=by cases ks with|nil=>exact absurd rfl hk0|cons x r=>simp
          have hcne:c≠0:=by omega
          obtain rfl:=ha.resolve_right hcne;rcases hS.blk 0 _ rfl with⟨L',q1,q2,q3,q4,q5⟩|⟨q1,q2⟩
          · rw[q1]at hρ;cases hρ;have hrow:=q3;obtain⟨e1,e2,cc,el,fr,e3,e4,e5,e6,e7⟩:=q3;rw[zn]at e1;have hlt:L.b<w.heap.size:=(Array.getElem?_eq_some_iff.1 e3).1;have hcell:∀ j (hj:j<ks.length),cc[L.o+j]? = some (encStr ks[j]):=fun j hj=>by
             obtain⟨u,hu,hr⟩:=e7 j 0 [.str ks[j]] (.str ks[j]) (rR ks j hj) rfl;rw[q2,show L.o+(j*1+0)=L.o+j by omega]at hu;rw[hu]
             cases hr with
             | str s _ hs =>
              show some (Value.string s)=some (Value.string ⟨ks[j].toArray⟩)
              rw[← hs]
            have hzz:L.o+L.n≤L.z:=by rw[q2,Nat.mul_one]at e6;exact e6
            have hH:Go.Sort.Holds encStr w L.b L.o ks.toArray:=fun j hj=>by
             have hj':j<ks.length:=by simpa using hj
             have hlen:L.o+j<cc.size:=by rw[e4];omega
             have hx:=hcell j hj';refine⟨?_,?_⟩
             · unfold World.cell?;rw[e3];simp[hx,hj']
             · unfold World.frozen?;rw[e3];have:=e5 (L.o+j) hlen;simp only[decide_eq_false_iff_not,Bool.and_eq_false_iff,not_and,Nat.not_lt]at this ⊢
               first|exact this|simpa using this|(simp;omega)
            have hslen:=nZ ks;refine Calls.mono (by
             have:=Tryz.ssort L.b L.o c ks w hH hlt (by omega);rw[hkl]at this;rw[show L.o+0*L.sz=L.o by omega];exact this) fun e w' hp=>?_
            obtain⟨rfl,q,os,hw'⟩:=hp
            change w'=Go.Sort.grow (Go.Sort.putRow encStr (Go.Sort.ahead w q) L.b L.o (vv ks).toArray) os at hw'
            rw[Lib.putRow_eq_setCells encStr w L.b L.o ks.toArray (vv ks) q hH (by rw[hslen];simp)]at hw';obtain⟨hS1,hN1⟩:=oY (w':=w.drewN q) hS rfl rfl rfl (Nat.le_refl _) (fun _ _=>rfl);have hfit:L.o+((vv ks).map encStr).length≤cc.size:=by rw[List.length_map,hslen,e4];omega
            obtain⟨c',k1,k2,k3⟩:=xf ((vv ks).map encStr) L.b L.o (w.drewN q) cc el fr e3 hfit;obtain⟨hS2,hN2⟩:=rS (blk:=.ts 1 (strs (vv ks))) hS1 (r:=0) rfl rfl q1 L.o ((vv ks).map encStr) (fun hN=>.inl ⟨L,q1,q2,⟨by rw[zn,hslen];exact e1,fun e he=>by
             simp only[strs,List.mem_map]at he;obtain⟨x,_,rfl⟩:=he;exact q2.symm,c',el,fr,k1,by rw[k2,e4],fun k hk=>e5 k (by rw[← k2];exact hk),e6,fun i j cs x hi hj=>by
              have hil:=(List.getElem?_eq_some_iff.1 hi).1;rw[zn]at hil;rw[rR (vv ks) i hil]at hi
              cases hi
              match j,hj with
              | 0,hj =>
               cases hj;refine⟨encStr (vv ks)[i],?_,.str _ _ (by simp)⟩;rw[q2,show L.o+(i*1+0)=L.o+i by omega,k3,if_pos ⟨by omega,by rw[List.length_map];omega⟩,show L.o+i - L.o=i by omega];simp[hil]
              | j+1,hj=>simp at hj⟩,q4,q5⟩) (fun i j x ho=>by
             obtain⟨sz,es,cs,h1,_⟩:=ho;simp at h1)
            obtain⟨hS3,hN3⟩:=oY (w':=w') hS2 (by rw[hw'];rfl) (by rw[hw'];rfl) (by rw[hw'];rfl) (by rw[hw'];simp[Go.Sort.grow]) (fun b hb=>by rw[hw'];simp only[Go.Sort.grow];rw[Array.getElem?_append_left hb]);exact⟨_,F,ρ,rfl,htup',hS3,((hN1.trans hN2).trans hN3).forget (Ext.refl _),fun _ _ _ hl=>hl⟩
          · have:ks=[]:=by
             have:=congrArg List.length q2;rw[zn]at this;exact List.eq_nil_of_length_eq_zero this
            exact absurd this hk0
     · cases hv
   · cases hv
 · cases hv
end Go.Proofs.YtefkoljdebekdaaGreatDoor
/- Rows of texts written anew by the library: slices.Compact by the kit's own contract. Conditions: those of each lemma. -/
namespace Go.Proofs.YtefkoljdebekdaaGreatDoor
open Go.Proofs.Tryz
open E
section
variable {w:World} {F:Nat→Prop} {ρ:yc} {Ow:Own} {h:Heap}
theorem YO {ks:List Str}(hS:St w F ρ Ow [.ts 1 (strs ks)])(hk0:ks≠[]){L:E.Loc}(hρ:ρ 0=some (some L)) :
 Go.Sort.Holds encStr w L.b L.o ks.toArray∧L.b<w.heap.size∧L.sz=1∧L.n=ks.length∧¬ F L.b ∧
 ∀ (ys:List Str) (q:Nat) (os:Array Obj) (w':World),ys.length=ks.length→w'=Go.Sort.grow ((w.drewN q).setCells L.b L.o (ys.map encStr)) os→St w' F ρ Ow [.ts 1 (strs ys)]∧Nxt Ow w F zP w' F zP:=by
 rcases hS.blk 0 _ rfl with⟨L',q1,q2,q3,q4,q5⟩|⟨q1,q2⟩
 · rw[q1]at hρ;cases hρ;have hrow:=q3;obtain⟨e1,e2,cc,el,fr,e3,e4,e5,e6,e7⟩:=q3;rw[zn]at e1;have hlt:L.b<w.heap.size:=(Array.getElem?_eq_some_iff.1 e3).1;have hcell:∀ j (hj:j<ks.length),cc[L.o+j]? = some (encStr ks[j]):=fun j hj=>by
    obtain⟨u,hu,hr⟩:=e7 j 0 [.str ks[j]] (.str ks[j]) (rR ks j hj) rfl;rw[q2,show L.o+(j*1+0)=L.o+j by omega]at hu;rw[hu]
    cases hr with
    | str s _ hs =>
     show some (Value.string s)=some (Value.string ⟨ks[j].toArray⟩)
     rw[← hs]
   have hzz:L.o+L.n≤L.z:=by rw[q2,Nat.mul_one]at e6;exact e6
   have hH:Go.Sort.Holds encStr w L.b L.o ks.toArray:=fun j hj=>by
    have hj':j<ks.length:=by simpa using hj
    have hlen:L.o+j<cc.size:=by rw[e4];omega
    have hx:=hcell j hj';refine⟨?_,?_⟩
    · unfold World.cell?;rw[e3];simp[hx,hj']
    · unfold World.frozen?;rw[e3];have:=e5 (L.o+j) hlen;simp only[decide_eq_false_iff_not,Bool.and_eq_false_iff,not_and,Nat.not_lt]at this ⊢
      first|exact this|simpa using this|(simp;omega)
   refine⟨hH,hlt,q2,e1.symm,q4,fun ys q os w' hys hw'=>?_⟩;obtain⟨hS1,hN1⟩:=oY (w':=w.drewN q) hS rfl rfl rfl (Nat.le_refl _) (fun _ _=>rfl);have hfit:L.o+(ys.map encStr).length≤cc.size:=by rw[List.length_map,hys,e4];omega
   obtain⟨c',k1,k2,k3⟩:=xf (ys.map encStr) L.b L.o (w.drewN q) cc el fr e3 hfit;obtain⟨hS2,hN2⟩:=rS (blk:=.ts 1 (strs ys)) hS1 (r:=0) rfl rfl q1 L.o (ys.map encStr) (fun hN=>.inl ⟨L,q1,q2,⟨by rw[zn,hys];exact e1,fun e he=>by
    simp only[strs,List.mem_map]at he;obtain⟨x,_,rfl⟩:=he;exact q2.symm,c',el,fr,k1,by rw[k2,e4],fun k hk=>e5 k (by rw[← k2];exact hk),e6,fun i j cs x hi hj=>by
     have hil:=(List.getElem?_eq_some_iff.1 hi).1;rw[zn]at hil;rw[rR ys i hil]at hi
     cases hi
     match j,hj with
     | 0,hj =>
      cases hj;refine⟨encStr ys[i],?_,.str _ _ (by simp)⟩;rw[q2,show L.o+(i*1+0)=L.o+i by omega,k3,if_pos ⟨by omega,by rw[List.length_map];omega⟩,show L.o+i - L.o=i by omega];simp[hil]
     | j+1,hj=>simp at hj⟩,q4,q5⟩) (fun i j x ho=>by
    obtain⟨sz,es,cs,h1,_⟩:=ho;simp at h1)
   obtain⟨hS3,hN3⟩:=oY (w':=w') hS2 (by rw[hw'];rfl) (by rw[hw'];rfl) (by rw[hw'];rfl) (by rw[hw'];simp[Go.Sort.grow]) (fun b hb=>by rw[hw'];simp only[Go.Sort.grow];rw[Array.getElem?_append_left hb]);exact⟨hS3,((hN1.trans hN2).trans hN3).forget (Ext.refl _)⟩
 · have:ks=[]:=by
    have:=congrArg List.length q2;rw[zn]at this;exact List.eq_nil_of_length_eq_zero this
   exact absurd this hk0
end
def rB (ks:List Str):List Str:=Lib.compact ks++List.replicate (ks.length - (Lib.compact ks).length) []
theorem o0 (ks:List Str):(Lib.compact ks).length≤ks.length:=by
 unfold Lib.compact Lib.compactUpTo;rw[List.length_map];exact Nat.le_trans (List.length_filter_le _ _) (by simp)
theorem mB (ks:List Str):(rB ks).length=ks.length:=by
 have:=o0 ks;unfold rB;simp only[List.length_append,List.length_replicate];omega
def WJ (args:List V)(h:Heap):Option (V×Heap) :=
 match args,h with
 | [.sl 0 0 n cap],[.ts 1 es]=>match strsOf es with
  | some ks=>if n=ks.length∧ks.length≤1073741824 then some (.sl 0 0 (Lib.compact ks).length cap,[.ts 1 (strs (rB ks))]) else none
  | none=>none
 | _,_=>none
theorem Tryz.Ul (blk off cap:Nat)(zs:List (List UInt8))(w:World)(hH:Go.Sort.Holds encStr w blk off zs.toArray)(hsz:zs.length≤9223372036854775807)(hcap:zs.length≤cap) :
 Calls prog 167 #[.slice (some ⟨blk,off,none⟩) zs.length cap] w fun e w'=>e=.returned (.slice (some ⟨blk,off,none⟩) (Lib.compact zs).length cap)∧∃ q,w'=Go.Sort.putRow encStr (Go.Sort.ahead w q) blk off (Lib.compact zs++List.replicate (zs.length - (Lib.compact zs).length) []).toArray:=Any.slices_Compact_string Tryz.Xi blk off cap zs w hH hsz hcap
theorem Tryz.iZ (a:Option Addr)(cap:Nat)(w:World):Calls prog 167 #[.slice a 0 cap] w fun e w'=>e=.returned (.slice a 0 cap)∧w'=w:=Any.slices_Compact_string_empty Tryz.Xi a cap w
theorem Qv (W0 : World) : ov prog W0 167 WJ := by
 intro args h v h' hv;unfold WJ at hv
 split at hv
 · rename_i n cap es
   split at hv
   · rename_i ks hks
     split at hv
     · rename_i hn;obtain⟨hn,hlim⟩:=hn
       cases hv;obtain rfl:=tZ hks;refine⟨⟨Tryz.f167,func167,by kernel_rfl,by kernel_rfl⟩,fun Ow w F ρ us hB hS hO hu=>?_⟩;obtain⟨us⟩:=us
       change RVs w F ρ us _ at hu
       cases hu with
       | cons h1 h2 =>
       cases h2;subst hn;have none_case:ks=[]→∀ (a:Option Addr) (c:Nat),RV w F ρ (.slice a 0 c) (.sl 0 0 0 cap)→Calls prog 167 #[.slice a 0 c] w fun e w'=>∃ u F' ρ',e=.returned u∧RV w' F' ρ' u (.sl 0 0 (Lib.compact ks).length cap)∧St w' F' ρ' Ow [.ts 1 (strs (rB ks))]∧Nxt Ow w F zP w' F' zP∧∀ r l,r<1→ρ r=some l→ρ' r=some l:=fun hk a c hrv=>by
        subst hk;refine (Tryz.iZ a c w).mono fun e w' hp=>?_
        obtain⟨rfl,rfl⟩:=hp;exact⟨_,F,ρ,rfl,hrv,hS,Nxt.refl _ _ _ _,fun _ _ _ hl=>hl⟩
       generalize hkl:ks.length=kl at h1
       cases h1 with
       | slP r cap a hρ hc=>exact none_case (List.eq_nil_of_length_eq_zero hkl) a 0 (.slP _ _ _ hρ hc)
       | sl r off len cap L a c hρ ha hl hnn hc0 hc1 hz =>
        by_cases hk0:ks=[]
        · subst hk0;simp at hkl;subst hkl;exact none_case rfl a c (.sl _ _ _ _ L _ _ hρ ha hl hnn hc0 hc1 hz)
        · have hpos:0<ks.length:=by cases ks with|nil=>exact absurd rfl hk0|cons x r=>simp
          have hcne:c≠0:=by omega
          obtain rfl:=ha.resolve_right hcne;obtain⟨hH,hlt,q2,q3,_,hput⟩:=YO hS hk0 hρ;have hcle:=o0 ks;refine Calls.mono (by
           have:=Tryz.Ul L.b L.o c ks w hH (by omega) (by omega);rw[hkl]at this;rw[show L.o+0*L.sz=L.o by omega];exact this) fun e w' hp=>?_
          obtain⟨rfl,q,hw'⟩:=hp;rw[← hkl]at hw'
          change w'=Go.Sort.putRow encStr (Go.Sort.ahead w q) L.b L.o (rB ks).toArray at hw'
          rw[Lib.putRow_eq_setCells encStr w L.b L.o ks.toArray (rB ks) q hH (by rw[mB];simp)]at hw';obtain⟨hS3,hN3⟩:=hput (rB ks) q #[] w' (mB ks) (by rw[hw'];simp);refine⟨_,F,ρ,rfl,?_,hS3,hN3,fun _ _ _ hl=>hl⟩;exact .sl 0 0 _ cap L _ c hρ (.inl (by rw[show L.o+0*L.sz=L.o by omega])) (by omega) (by omega) hc0 hc1 hz
     · cases hv
   · cases hv
 · cases hv
end Go.Proofs.YtefkoljdebekdaaGreatDoor
/- Which slots the loops keep: tables written by a program of mine (live.py). Conditions: none. -/
namespace Go.Proofs.YtefkoljdebekdaaGreatDoor
open Go.Proofs.Tryz
def SR:List (Nat×Nat×List Nat)→Nat→Nat→List Nat
 | [],_,_=>[]
 | (f',p',l)::r,f,p=>if f=f'∧p=p' then l else SR r f p
def Q4:List (Nat×Nat×List Nat):=[
 (15,58,[0,1,5]),
 (21,26,[1,3]),
 (22,26,[1,6,7,8]),
 (33,122,[1,5,15,16,17]),
 (33,31334,[1,5,7,15,16,17,21,22,23]),
 (35,58,[1,2,5,13,14,15]),
 (35,14950,[1,2,5,7,13,14,15,22,23,24]),
 (37,250,[1,6,9,10,11]),
 (40,58,[1,2,5,6]),
 (40,3730,[1,2,5,6,7]),
 (41,58,[1,2,5,6]),
 (41,7462,[1,2,5,6,7,8]),
 (42,1018,[1,2,10,11,13,14]),
 (43,26,[0,3]),
 (44,58,[1,5,10,11,12]),
 (46,26,[0,1,5]),
 (47,26,[2,3,24,25,26]),
 (47,122,[2,3,56,57]),
 (48,58,[0,3,4]),
 (77,26,[1,2,5]),
 (81,26,[0,1,7,8]),
 (82,26,[1,3]),
 (83,26,[1,2,5]),
 (85,26,[1,2,7,8,9]),
 (97,26,[0,1,7,8]),
 (100,250,[0,3,4,5]),
 (101,122,[0,3,5,6,7]),
 (103,60,[2,5,6]),
 (106,26,[0,4]),
 (108,122,[0,3,4,5]),
 (109,58,[3,7,8,9]),
 (111,122,[4,15,16,17]),
 (112,58,[0,3,10,11,12]),
 (114,250,[4,5,6]),
 (115,58,[0,3,4]),
 (115,59706,[0,3,4,5,6]),
 (116,26,[0,3]),
 (118,60,[2,5,6]),
 (119,26,[0,1,2,7]),
 (120,28,[0,1,5]),
 (121,58,[1,2,5,6]),
 (123,58,[0,3,4]),
 (123,29852,[0,3,4,5,7]),
 (124,58,[2,3,5,6]),
 (124,250,[2,3,7]),
 (133,122,[0,2,3,4,5]),
 (133,250,[0,2,3,7]),
 (133,32034,[0,2,3,7,8]),
 (148,26,[0,1,5]),
 (152,26,[0,5,6,7]),
 (160,122,[1,3,4]),
 (162,122,[0,5,23,24,25]),
 (164,26,[0,1,7,8]),
 (167,58,[0,3]),
 (167,59690,[0,3,4,5]),
 (170,26,[0,5,6,7]),
 (172,26,[0,1,7,8]),
 (177,122,[0,3,4,5]),
 (179,122,[0,1,5,6,7]),
 (181,58,[1,5,6,7]),
 (182,26,[0,1,5]),
 (183,58,[0,3,4]),
 (187,2044,[0,1,2,3,9,10]),
 (190,26,[1,13,14,15]),
 (190,58,[1,24,25,26]),
 (191,250,[0,1,5,39,40,41]),
 (191,4090,[1,8,63,64,65]),
 (196,28,[2,3,4,5]),
 (202,122,[0,3,4,5]),
 (204,26,[1,3]),
 (205,124,[0,3,4]),
 (206,14,[0,1,2,3,8,9]),
 (208,14,[0,1,2,3,4,10,11]),
 (211,250,[2,4,5,16,17,18]),
 (216,122,[2,4,5,6]),
 (218,26,[0,3]),
 (221,2044,[0,1,5,6,7,8,9,10]),
 (222,250,[0,1,6,7]),
 (223,62,[0,1,5]),
 (225,3770,[5,6,47,48,49]),
 (233,12,[0,1]),
 (241,28,[0,1,5]),
 (241,232174,[0,1,5,6,7,8]),
 (241,3714990,[0,1,5,9,10,11]),
 (242,26,[0,3]),
 (243,6,[0,1,2,6]),
 (243,402,[0,1,2,6,7]),
 (244,122,[0,6,7,8,9]),
 (244,126,[0,6,7,10]),
 (245,238,[0,1,6,7,8,9]),
 (247,14,[0,6,7]),
 (248,58,[0,1,2,7,8]),
 (248,3728,[0,1,2,7,8]),
 (248,477674,[0,1,2,7,8,9]),
 (248,477690,[0,1,2,7,8,10]),
 (250,60,[0,1,9,10]),
 (250,960,[0,1,9,10]),
 (250,1924,[0,1,9,10]),
 (251,60,[0,1,10,11]),
 (251,124,[0,1,10,11]),
 (251,4092,[0,1,10,11]),
 (251,65472,[0,1,10,11]),
 (251,130948,[0,1,10,11]),
 (254,6,[0,1,2,3,8]),
 (254,402,[0,1,2,3,8,9]),
 (255,122,[0,3,8,9,10,11]),
 (255,126,[0,3,8,9,12]),
 (256,238,[0,1,8,9,10,11]),
 (258,14,[0,8,9]),
 (259,58,[0,1,2,3,9,10]),
 (259,3728,[0,1,2,3,9,10]),
 (259,477674,[0,1,2,3,9,10,11]),
 (259,477690,[0,1,2,3,9,10,12]),
 (260,60,[0,1,4,11,12]),
 (260,960,[0,1,4,11,12]),
 (260,1924,[0,1,4,11,12]),
 (261,60,[0,1,4,12,13]),
 (261,124,[0,1,4,12,13]),
 (261,4092,[0,1,4,12,13]),
 (261,65472,[0,1,4,12,13]),
 (261,130948,[0,1,4,12,13]),
 (268,250,[0,1,5,6,7,8,9]),
 (268,1018,[0,1,5,6,7,8,10]),
 (269,26,[2,4]),
 (286,26,[0,3]),
 (287,6,[0,2,3,8]),
 (293,6,[0,2,3,4,10]),
 (297,58,[0,4,5]),
 (297,250,[4,6,7,8]),
 (299,32762,[1,8,9,10,11,12,13,99,100,101]),
 (309,508,[0,3,4,5]),
 (312,12,[0,1,4]),
 (313,4060,[0,1,3,4,10,11,12,13,17]),
 (313,16220,[0,1,3,4,10,11,12,13,14,15,16])]
def RH:List (Nat×Nat×List Nat):=[
 (15,58,[4]),
 (21,26,[1,2]),
 (22,26,[1,2]),
 (33,122,[5]),
 (33,31334,[1,5,15,16,17]),
 (35,58,[5]),
 (35,14950,[1,2,5,13,14,15]),
 (37,250,[8]),
 (40,58,[5]),
 (40,3730,[1,2,5,6]),
 (41,58,[5]),
 (41,7462,[1,2,5,6]),
 (42,1018,[10]),
 (43,26,[2]),
 (44,58,[5]),
 (46,26,[4]),
 (47,26,[2,3,4]),
 (47,122,[2,3,4]),
 (48,58,[0,3]),
 (77,26,[4]),
 (81,26,[4]),
 (82,26,[1,2]),
 (83,26,[4]),
 (85,26,[4]),
 (97,26,[4]),
 (100,250,[3]),
 (101,122,[5]),
 (103,60,[5]),
 (106,26,[2,3]),
 (108,122,[3]),
 (109,58,[3]),
 (111,122,[2,3,4]),
 (112,58,[0,2]),
 (114,250,[2,3,4]),
 (115,58,[0,2]),
 (115,59706,[0,2,3,4,5]),
 (116,26,[0,2]),
 (118,60,[5]),
 (119,26,[6]),
 (120,28,[0,1,5]),
 (121,58,[5]),
 (123,58,[3]),
 (123,29852,[0,3,4,7]),
 (124,58,[2,3,4]),
 (124,250,[2,3,4]),
 (133,122,[0,2,3]),
 (133,250,[2,3]),
 (133,32034,[0,2,3,7]),
 (148,26,[4]),
 (152,26,[2]),
 (160,122,[3]),
 (162,122,[4]),
 (164,26,[4]),
 (167,58,[0,2]),
 (167,59690,[0,3]),
 (170,26,[0,2]),
 (172,26,[4]),
 (177,122,[0,3,4]),
 (179,122,[0,5,6]),
 (181,58,[4]),
 (182,26,[4]),
 (183,58,[0,2,3]),
 (187,2044,[0,9,10]),
 (190,26,[1,2]),
 (190,58,[1,2]),
 (191,250,[0,1,5]),
 (191,4090,[8]),
 (196,28,[2,3,4,5]),
 (202,122,[3]),
 (204,26,[1,2]),
 (205,124,[0,3]),
 (206,14,[]),
 (208,14,[]),
 (211,250,[2,3,4,5]),
 (216,122,[2,3,4,5]),
 (218,26,[0,2]),
 (221,2044,[4]),
 (222,250,[0,1,6]),
 (223,62,[4]),
 (225,3770,[2,3,5,6]),
 (233,12,[0]),
 (241,28,[1,5]),
 (241,232174,[0,1,5]),
 (241,3714990,[0,1,5]),
 (242,26,[0,2]),
 (243,6,[]),
 (243,402,[0,1,2,6]),
 (244,122,[0,6,7,8]),
 (244,126,[]),
 (245,238,[]),
 (247,14,[]),
 (248,58,[6]),
 (248,3728,[0,1,2,7,8]),
 (248,477674,[0,1,2,7,8]),
 (248,477690,[0,1,2,7,8]),
 (250,60,[9]),
 (250,960,[0,1,9,10]),
 (250,1924,[0,1,9,10]),
 (251,60,[0,1,10,11]),
 (251,124,[0,1,10,11]),
 (251,4092,[0,1,11]),
 (251,65472,[0,1,10,11]),
 (251,130948,[0,1,10,11]),
 (254,6,[]),
 (254,402,[0,1,2,3,8]),
 (255,122,[0,3,8,9,10]),
 (255,126,[]),
 (256,238,[]),
 (258,14,[]),
 (259,58,[8]),
 (259,3728,[0,1,2,3,9,10]),
 (259,477674,[0,1,2,3,9,10]),
 (259,477690,[0,1,2,3,9,10]),
 (260,60,[11]),
 (260,960,[0,1,4,11,12]),
 (260,1924,[0,1,4,11,12]),
 (261,60,[0,1,4,12,13]),
 (261,124,[0,1,4,12,13]),
 (261,4092,[0,1,13]),
 (261,65472,[0,1,4,12,13]),
 (261,130948,[0,1,4,12,13]),
 (268,250,[0,1,5,6,7,8]),
 (268,1018,[4]),
 (269,26,[2]),
 (286,26,[0,2]),
 (287,6,[]),
 (293,6,[]),
 (297,58,[0,4]),
 (297,250,[4,6]),
 (299,32762,[6,7,9,12,13]),
 (309,508,[2,3]),
 (312,12,[0,1,4]),
 (313,4060,[0,1,3,4,10,11,12,13]),
 (313,16220,[0,1,3,4,10,11,12,13])]
def zL (f p:Nat):List Nat:=SR Q4 f p
def zK (f p:Nat):List Nat:=SR RH f p
theorem LTS:zL 15 58=[0,1,5] ∧
 zK 15 58=[4] ∧
 zL 21 26=[1,3] ∧
 zK 21 26=[1,2] ∧
 zL 22 26=[1,6,7,8] ∧
 zK 22 26=[1,2] ∧
 zL 33 122=[1,5,15,16,17] ∧
 zK 33 122=[5] ∧
 zL 33 31334=[1,5,7,15,16,17,21,22,23] ∧
 zK 33 31334=[1,5,15,16,17] ∧
 zL 35 58=[1,2,5,13,14,15] ∧
 zK 35 58=[5] ∧
 zL 35 14950=[1,2,5,7,13,14,15,22,23,24] ∧
 zK 35 14950=[1,2,5,13,14,15] ∧
 zL 37 250=[1,6,9,10,11] ∧
 zK 37 250=[8] ∧
 zL 40 58=[1,2,5,6] ∧
 zK 40 58=[5] ∧
 zL 40 3730=[1,2,5,6,7] ∧
 zK 40 3730=[1,2,5,6] ∧
 zL 41 58=[1,2,5,6] ∧
 zK 41 58=[5] ∧
 zL 41 7462=[1,2,5,6,7,8] ∧
 zK 41 7462=[1,2,5,6] ∧
 zL 42 1018=[1,2,10,11,13,14] ∧
 zK 42 1018=[10] ∧
 zL 43 26=[0,3] ∧
 zK 43 26=[2] ∧
 zL 44 58=[1,5,10,11,12] ∧
 zK 44 58=[5] ∧
 zL 46 26=[0,1,5] ∧
 zK 46 26=[4] ∧
 zL 47 26=[2,3,24,25,26] ∧
 zK 47 26=[2,3,4] ∧
 zL 47 122=[2,3,56,57] ∧
 zK 47 122=[2,3,4] ∧
 zL 48 58=[0,3,4] ∧
 zK 48 58=[0,3] ∧
 zL 77 26=[1,2,5] ∧
 zK 77 26=[4] ∧
 zL 81 26=[0,1,7,8] ∧
 zK 81 26=[4] ∧
 zL 82 26=[1,3] ∧
 zK 82 26=[1,2] ∧
 zL 83 26=[1,2,5] ∧
 zK 83 26=[4] ∧
 zL 85 26=[1,2,7,8,9] ∧
 zK 85 26=[4] ∧
 zL 97 26=[0,1,7,8] ∧
 zK 97 26=[4] ∧
 zL 100 250=[0,3,4,5] ∧
 zK 100 250=[3] ∧
 zL 101 122=[0,3,5,6,7] ∧
 zK 101 122=[5] ∧
 zL 103 60=[2,5,6] ∧
 zK 103 60=[5] ∧
 zL 106 26=[0,4] ∧
 zK 106 26=[2,3] ∧
 zL 108 122=[0,3,4,5] ∧
 zK 108 122=[3] ∧
 zL 109 58=[3,7,8,9] ∧
 zK 109 58=[3] ∧
 zL 111 122=[4,15,16,17] ∧
 zK 111 122=[2,3,4] ∧
 zL 112 58=[0,3,10,11,12] ∧
 zK 112 58=[0,2] ∧
 zL 114 250=[4,5,6] ∧
 zK 114 250=[2,3,4] ∧
 zL 115 58=[0,3,4] ∧
 zK 115 58=[0,2] ∧
 zL 115 59706=[0,3,4,5,6] ∧
 zK 115 59706=[0,2,3,4,5] ∧
 zL 116 26=[0,3] ∧
 zK 116 26=[0,2] ∧
 zL 118 60=[2,5,6] ∧
 zK 118 60=[5] ∧
 zL 119 26=[0,1,2,7] ∧
 zK 119 26=[6] ∧
 zL 120 28=[0,1,5] ∧
 zK 120 28=[0,1,5] ∧
 zL 121 58=[1,2,5,6] ∧
 zK 121 58=[5] ∧
 zL 123 58=[0,3,4] ∧
 zK 123 58=[3] ∧
 zL 123 29852=[0,3,4,5,7] ∧
 zK 123 29852=[0,3,4,7] ∧
 zL 124 58=[2,3,5,6] ∧
 zK 124 58=[2,3,4] ∧
 zL 124 250=[2,3,7] ∧
 zK 124 250=[2,3,4] ∧
 zL 133 122=[0,2,3,4,5] ∧
 zK 133 122=[0,2,3] ∧
 zL 133 250=[0,2,3,7] ∧
 zK 133 250=[2,3] ∧
 zL 133 32034=[0,2,3,7,8] ∧
 zK 133 32034=[0,2,3,7] ∧
 zL 148 26=[0,1,5] ∧
 zK 148 26=[4] ∧
 zL 152 26=[0,5,6,7] ∧
 zK 152 26=[2] ∧
 zL 160 122=[1,3,4] ∧
 zK 160 122=[3] ∧
 zL 162 122=[0,5,23,24,25] ∧
 zK 162 122=[4] ∧
 zL 164 26=[0,1,7,8] ∧
 zK 164 26=[4] ∧
 zL 167 58=[0,3] ∧
 zK 167 58=[0,2] ∧
 zL 167 59690=[0,3,4,5] ∧
 zK 167 59690=[0,3] ∧
 zL 170 26=[0,5,6,7] ∧
 zK 170 26=[0,2] ∧
 zL 172 26=[0,1,7,8] ∧
 zK 172 26=[4] ∧
 zL 177 122=[0,3,4,5] ∧
 zK 177 122=[0,3,4] ∧
 zL 179 122=[0,1,5,6,7] ∧
 zK 179 122=[0,5,6] ∧
 zL 181 58=[1,5,6,7] ∧
 zK 181 58=[4] ∧
 zL 182 26=[0,1,5] ∧
 zK 182 26=[4] ∧
 zL 183 58=[0,3,4] ∧
 zK 183 58=[0,2,3] ∧
 zL 187 2044=[0,1,2,3,9,10] ∧
 zK 187 2044=[0,9,10] ∧
 zL 190 26=[1,13,14,15] ∧
 zK 190 26=[1,2] ∧
 zL 190 58=[1,24,25,26] ∧
 zK 190 58=[1,2] ∧
 zL 191 250=[0,1,5,39,40,41] ∧
 zK 191 250=[0,1,5] ∧
 zL 191 4090=[1,8,63,64,65] ∧
 zK 191 4090=[8] ∧
 zL 196 28=[2,3,4,5] ∧
 zK 196 28=[2,3,4,5] ∧
 zL 202 122=[0,3,4,5] ∧
 zK 202 122=[3] ∧
 zL 204 26=[1,3] ∧
 zK 204 26=[1,2] ∧
 zL 205 124=[0,3,4] ∧
 zK 205 124=[0,3] ∧
 zL 206 14=[0,1,2,3,8,9] ∧
 zK 206 14=[] ∧
 zL 208 14=[0,1,2,3,4,10,11] ∧
 zK 208 14=[] ∧
 zL 211 250=[2,4,5,16,17,18] ∧
 zK 211 250=[2,3,4,5] ∧
 zL 216 122=[2,4,5,6] ∧
 zK 216 122=[2,3,4,5] ∧
 zL 218 26=[0,3] ∧
 zK 218 26=[0,2] ∧
 zL 221 2044=[0,1,5,6,7,8,9,10] ∧
 zK 221 2044=[4] ∧
 zL 222 250=[0,1,6,7] ∧
 zK 222 250=[0,1,6] ∧
 zL 223 62=[0,1,5] ∧
 zK 223 62=[4] ∧
 zL 225 3770=[5,6,47,48,49] ∧
 zK 225 3770=[2,3,5,6] ∧
 zL 233 12=[0,1] ∧
 zK 233 12=[0] ∧
 zL 241 28=[0,1,5] ∧
 zK 241 28=[1,5] ∧
 zL 241 232174=[0,1,5,6,7,8] ∧
 zK 241 232174=[0,1,5] ∧
 zL 241 3714990=[0,1,5,9,10,11] ∧
 zK 241 3714990=[0,1,5] ∧
 zL 242 26=[0,3] ∧
 zK 242 26=[0,2] ∧
 zL 243 6=[0,1,2,6] ∧
 zK 243 6=[] ∧
 zL 243 402=[0,1,2,6,7] ∧
 zK 243 402=[0,1,2,6] ∧
 zL 244 122=[0,6,7,8,9] ∧
 zK 244 122=[0,6,7,8] ∧
 zL 244 126=[0,6,7,10] ∧
 zK 244 126=[] ∧
 zL 245 238=[0,1,6,7,8,9] ∧
 zK 245 238=[] ∧
 zL 247 14=[0,6,7] ∧
 zK 247 14=[] ∧
 zL 248 58=[0,1,2,7,8] ∧
 zK 248 58=[6] ∧
 zL 248 3728=[0,1,2,7,8] ∧
 zK 248 3728=[0,1,2,7,8] ∧
 zL 248 477674=[0,1,2,7,8,9] ∧
 zK 248 477674=[0,1,2,7,8] ∧
 zL 248 477690=[0,1,2,7,8,10] ∧
 zK 248 477690=[0,1,2,7,8] ∧
 zL 250 60=[0,1,9,10] ∧
 zK 250 60=[9] ∧
 zL 250 960=[0,1,9,10] ∧
 zK 250 960=[0,1,9,10] ∧
 zL 250 1924=[0,1,9,10] ∧
 zK 250 1924=[0,1,9,10] ∧
 zL 251 60=[0,1,10,11] ∧
 zK 251 60=[0,1,10,11] ∧
 zL 251 124=[0,1,10,11] ∧
 zK 251 124=[0,1,10,11] ∧
 zL 251 4092=[0,1,10,11] ∧
 zK 251 4092=[0,1,11] ∧
 zL 251 65472=[0,1,10,11] ∧
 zK 251 65472=[0,1,10,11] ∧
 zL 251 130948=[0,1,10,11] ∧
 zK 251 130948=[0,1,10,11] ∧
 zL 254 6=[0,1,2,3,8] ∧
 zK 254 6=[] ∧
 zL 254 402=[0,1,2,3,8,9] ∧
 zK 254 402=[0,1,2,3,8] ∧
 zL 255 122=[0,3,8,9,10,11] ∧
 zK 255 122=[0,3,8,9,10] ∧
 zL 255 126=[0,3,8,9,12] ∧
 zK 255 126=[] ∧
 zL 256 238=[0,1,8,9,10,11] ∧
 zK 256 238=[] ∧
 zL 258 14=[0,8,9] ∧
 zK 258 14=[] ∧
 zL 259 58=[0,1,2,3,9,10] ∧
 zK 259 58=[8] ∧
 zL 259 3728=[0,1,2,3,9,10] ∧
 zK 259 3728=[0,1,2,3,9,10] ∧
 zL 259 477674=[0,1,2,3,9,10,11] ∧
 zK 259 477674=[0,1,2,3,9,10] ∧
 zL 259 477690=[0,1,2,3,9,10,12] ∧
 zK 259 477690=[0,1,2,3,9,10] ∧
 zL 260 60=[0,1,4,11,12] ∧
 zK 260 60=[11] ∧
 zL 260 960=[0,1,4,11,12] ∧
 zK 260 960=[0,1,4,11,12] ∧
 zL 260 1924=[0,1,4,11,12] ∧
 zK 260 1924=[0,1,4,11,12] ∧
 zL 261 60=[0,1,4,12,13] ∧
 zK 261 60=[0,1,4,12,13] ∧
 zL 261 124=[0,1,4,12,13] ∧
 zK 261 124=[0,1,4,12,13] ∧
 zL 261 4092=[0,1,4,12,13] ∧
 zK 261 4092=[0,1,13] ∧
 zL 261 65472=[0,1,4,12,13] ∧
 zK 261 65472=[0,1,4,12,13] ∧
 zL 261 130948=[0,1,4,12,13] ∧
 zK 261 130948=[0,1,4,12,13] ∧
 zL 268 250=[0,1,5,6,7,8,9] ∧
 zK 268 250=[0,1,5,6,7,8] ∧
 zL 268 1018=[0,1,5,6,7,8,10] ∧
 zK 268 1018=[4] ∧
 zL 269 26=[2,4] ∧
 zK 269 26=[2] ∧
 zL 286 26=[0,3] ∧
 zK 286 26=[0,2] ∧
 zL 287 6=[0,2,3,8] ∧
 zK 287 6=[] ∧
 zL 293 6=[0,2,3,4,10] ∧
 zK 293 6=[] ∧
 zL 297 58=[0,4,5] ∧
 zK 297 58=[0,4] ∧
 zL 297 250=[4,6,7,8] ∧
 zK 297 250=[4,6] ∧
 zL 299 32762=[1,8,9,10,11,12,13,99,100,101] ∧
 zK 299 32762=[6,7,9,12,13] ∧
 zL 309 508=[0,3,4,5] ∧
 zK 309 508=[2,3] ∧
 zL 312 12=[0,1,4] ∧
 zK 312 12=[0,1,4] ∧
 zL 313 4060=[0,1,3,4,10,11,12,13,17] ∧
 zK 313 4060=[0,1,3,4,10,11,12,13] ∧
 zL 313 16220=[0,1,3,4,10,11,12,13,14,15,16] ∧
 zK 313 16220=[0,1,3,4,10,11,12,13]:=by and_intros<;>kernel_rfl
end Go.Proofs.YtefkoljdebekdaaGreatDoor
/- The types' facts of this seat, written by a program of mine (tys.py) and checked one by one. Conditions: none. -/
namespace Go.Proofs.YtefkoljdebekdaaGreatDoor
open Go.Proofs.Tryz
open E
theorem TYS:zD prog 1=1 ∧
 yi prog 1=false ∧
 known prog 1=true ∧
 prog.bytesOf 1=8 ∧
 yu prog 1=none ∧
 isStr prog 1=false ∧
 xZ prog 1=false ∧
 y8 prog 1=false ∧
 isIf prog 1=false ∧
 zeroOf prog 1=some [.t .nilf] ∧
 isInt prog 1=none ∧
 zD prog 2=1 ∧
 yi prog 2=false ∧
 known prog 2=true ∧
 prog.bytesOf 2=8 ∧
 yu prog 2=none ∧
 isStr prog 2=false ∧
 xZ prog 2=false ∧
 y8 prog 2=false ∧
 isIf prog 2=false ∧
 zeroOf prog 2=some [.t (.int .i64 0)] ∧
 isInt prog 2=some .i64 ∧
 zD prog 3=1 ∧
 yi prog 3=false ∧
 known prog 3=true ∧
 prog.bytesOf 3=8 ∧
 yu prog 3=none ∧
 isStr prog 3=false ∧
 xZ prog 3=false ∧
 y8 prog 3=false ∧
 isIf prog 3=false ∧
 zeroOf prog 3=some [.t (.int .i64 0)] ∧
 isInt prog 3=some .i64 ∧
 zD prog 4=1 ∧
 yi prog 4=false ∧
 known prog 4=true ∧
 prog.bytesOf 4=1 ∧
 yu prog 4=none ∧
 isStr prog 4=false ∧
 xZ prog 4=false ∧
 y8 prog 4=true ∧
 isIf prog 4=false ∧
 zeroOf prog 4=some [.t (.bool false)] ∧
 isInt prog 4=none ∧
 zD prog 5=1 ∧
 yi prog 5=false ∧
 known prog 5=true ∧
 prog.bytesOf 5=1 ∧
 yu prog 5=none ∧
 isStr prog 5=false ∧
 xZ prog 5=false ∧
 y8 prog 5=false ∧
 isIf prog 5=false ∧
 zeroOf prog 5=some [.t (.int .u8 0)] ∧
 isInt prog 5=some .u8 ∧
 zD prog 6=1 ∧
 yi prog 6=false ∧
 known prog 6=true ∧
 prog.bytesOf 6=1 ∧
 yu prog 6=none ∧
 isStr prog 6=false ∧
 xZ prog 6=false ∧
 y8 prog 6=false ∧
 isIf prog 6=false ∧
 zeroOf prog 6=some [.t (.int .u8 0)] ∧
 isInt prog 6=some .u8 ∧
 zD prog 8=4 ∧
 yi prog 8=true ∧
 known prog 8=true ∧
 prog.bytesOf 8=24 ∧
 yu prog 8=none ∧
 isStr prog 8=false ∧
 xZ prog 8=false ∧
 y8 prog 8=false ∧
 isIf prog 8=false ∧
 tn prog 8=true ∧
 fOf prog 8 0=some (0,1,false) ∧
 fTy prog 8 0=2 ∧
 fOf prog 8 1=some (1,1,false) ∧
 fTy prog 8 1=3 ∧
 fOf prog 8 2=some (2,1,false) ∧
 fTy prog 8 2=4 ∧
 fOf prog 8 3=some (3,1,false) ∧
 fTy prog 8 3=6 ∧
 zeroOf prog 8=some [.t (.int .i64 0),.t (.int .i64 0),.t (.bool false),.t (.int .u8 0)] ∧
 isInt prog 8=none ∧
 zD prog 9=1 ∧
 yi prog 9=false ∧
 known prog 9=true ∧
 prog.bytesOf 9=16 ∧
 yu prog 9=none ∧
 isStr prog 9=true ∧
 xZ prog 9=false ∧
 y8 prog 9=false ∧
 isIf prog 9=false ∧
 zeroOf prog 9=some [.t (.str [])] ∧
 isInt prog 9=none ∧
 zD prog 12=1 ∧
 yi prog 12=false ∧
 known prog 12=true ∧
 prog.bytesOf 12=8 ∧
 yu prog 12=none ∧
 isStr prog 12=false ∧
 xZ prog 12=false ∧
 y8 prog 12=false ∧
 isIf prog 12=false ∧
 zeroOf prog 12=some [.t (.int .u64 0)] ∧
 isInt prog 12=some .u64 ∧
 zD prog 21=1 ∧
 yi prog 21=false ∧
 known prog 21=true ∧
 prog.bytesOf 21=4 ∧
 yu prog 21=none ∧
 isStr prog 21=false ∧
 xZ prog 21=false ∧
 y8 prog 21=false ∧
 isIf prog 21=false ∧
 zeroOf prog 21=some [.t (.int .i32 0)] ∧
 isInt prog 21=some .i32 ∧
 zD prog 22=1 ∧
 yi prog 22=false ∧
 known prog 22=true ∧
 prog.bytesOf 22=24 ∧
 yu prog 22=some 5 ∧
 isStr prog 22=false ∧
 xZ prog 22=true ∧
 y8 prog 22=false ∧
 isIf prog 22=false ∧
 zeroOf prog 22=some [.nil 1] ∧
 isInt prog 22=none ∧
 zD prog 24=1 ∧
 yi prog 24=false ∧
 known prog 24=true ∧
 prog.bytesOf 24=24 ∧
 yu prog 24=some 9 ∧
 isStr prog 24=false ∧
 xZ prog 24=true ∧
 y8 prog 24=false ∧
 isIf prog 24=false ∧
 zeroOf prog 24=some [.nil 1] ∧
 isInt prog 24=none ∧
 zD prog 25=1 ∧
 yi prog 25=false ∧
 known prog 25=true ∧
 prog.bytesOf 25=24 ∧
 yu prog 25=some 51 ∧
 isStr prog 25=false ∧
 xZ prog 25=true ∧
 y8 prog 25=false ∧
 isIf prog 25=false ∧
 zeroOf prog 25=some [.nil 6] ∧
 isInt prog 25=none ∧
 zD prog 27=2 ∧
 yi prog 27=true ∧
 known prog 27=true ∧
 prog.bytesOf 27=48 ∧
 yu prog 27=none ∧
 isStr prog 27=false ∧
 xZ prog 27=false ∧
 y8 prog 27=false ∧
 isIf prog 27=false ∧
 tn prog 27=true ∧
 fOf prog 27 0=some (0,1,false) ∧
 fTy prog 27 0=24 ∧
 fOf prog 27 1=some (1,1,false) ∧
 fTy prog 27 1=25 ∧
 zeroOf prog 27=some [.nil 1,.nil 6] ∧
 isInt prog 27=none ∧
 zD prog 49=1 ∧
 yi prog 49=false ∧
 known prog 49=true ∧
 prog.bytesOf 49=24 ∧
 yu prog 49=some 105 ∧
 isStr prog 49=false ∧
 xZ prog 49=true ∧
 y8 prog 49=false ∧
 isIf prog 49=false ∧
 zeroOf prog 49=some [.nil 2] ∧
 isInt prog 49=none ∧
 zD prog 51=6 ∧
 yi prog 51=true ∧
 known prog 51=true ∧
 prog.bytesOf 51=104 ∧
 yu prog 51=none ∧
 isStr prog 51=false ∧
 xZ prog 51=false ∧
 y8 prog 51=false ∧
 isIf prog 51=false ∧
 tn prog 51=true ∧
 fOf prog 51 0=some (0,1,false) ∧
 fTy prog 51 0=9 ∧
 fOf prog 51 1=some (1,1,false) ∧
 fTy prog 51 1=9 ∧
 fOf prog 51 2=some (2,1,false) ∧
 fTy prog 51 2=9 ∧
 fOf prog 51 3=some (3,1,false) ∧
 fTy prog 51 3=49 ∧
 fOf prog 51 4=some (4,1,false) ∧
 fTy prog 51 4=4 ∧
 fOf prog 51 5=some (5,1,false) ∧
 fTy prog 51 5=24 ∧
 zeroOf prog 51=some [.t (.str []),.t (.str []),.t (.str []),.nil 2,.t (.bool false),.nil 1] ∧
 isInt prog 51=none ∧
 zD prog 53=3 ∧
 yi prog 53=true ∧
 known prog 53=true ∧
 prog.bytesOf 53=48 ∧
 yu prog 53=none ∧
 isStr prog 53=false ∧
 xZ prog 53=false ∧
 y8 prog 53=false ∧
 isIf prog 53=false ∧
 tn prog 53=true ∧
 eE prog 53=true ∧
 nFs prog 53=3 ∧
 fOf prog 53 0=some (0,1,false) ∧
 fTy prog 53 0=9 ∧
 fOf prog 53 1=some (1,1,false) ∧
 fTy prog 53 1=9 ∧
 fOf prog 53 2=some (2,1,false) ∧
 fTy prog 53 2=9 ∧
 zeroOf prog 53=some [.t (.str []),.t (.str []),.t (.str [])] ∧
 isInt prog 53=none ∧
 zD prog 55=1 ∧
 yi prog 55=false ∧
 known prog 55=true ∧
 prog.bytesOf 55=24 ∧
 yu prog 55=some 53 ∧
 isStr prog 55=false ∧
 xZ prog 55=true ∧
 y8 prog 55=false ∧
 isIf prog 55=false ∧
 zeroOf prog 55=some [.nil 3] ∧
 isInt prog 55=none ∧
 zD prog 62=1 ∧
 yi prog 62=false ∧
 known prog 62=true ∧
 prog.bytesOf 62=8 ∧
 yu prog 62=none ∧
 isStr prog 62=false ∧
 xZ prog 62=false ∧
 y8 prog 62=false ∧
 isIf prog 62=false ∧
 zeroOf prog 62=some [.t .nilf] ∧
 isInt prog 62=none ∧
 zD prog 66=4 ∧
 yi prog 66=true ∧
 known prog 66=true ∧
 prog.bytesOf 66=48 ∧
 yu prog 66=none ∧
 isStr prog 66=false ∧
 xZ prog 66=false ∧
 y8 prog 66=false ∧
 isIf prog 66=false ∧
 tn prog 66=true ∧
 fOf prog 66 0=some (0,1,false) ∧
 fTy prog 66 0=3 ∧
 fOf prog 66 1=some (1,1,false) ∧
 fTy prog 66 1=3 ∧
 fOf prog 66 2=some (2,1,false) ∧
 fTy prog 66 2=3 ∧
 fOf prog 66 3=some (3,1,false) ∧
 fTy prog 66 3=24 ∧
 zeroOf prog 66=some [.t (.int .i64 0),.t (.int .i64 0),.t (.int .i64 0),.nil 1] ∧
 isInt prog 66=none ∧
 zD prog 71=1 ∧
 yi prog 71=false ∧
 known prog 71=true ∧
 prog.bytesOf 71=8 ∧
 yu prog 71=none ∧
 isStr prog 71=false ∧
 xZ prog 71=false ∧
 y8 prog 71=false ∧
 isIf prog 71=false ∧
 zeroOf prog 71=some [.t .nilp] ∧
 isInt prog 71=none ∧
 zD prog 82=1 ∧
 yi prog 82=false ∧
 known prog 82=true ∧
 prog.bytesOf 82=8 ∧
 yu prog 82=none ∧
 isStr prog 82=false ∧
 xZ prog 82=false ∧
 y8 prog 82=false ∧
 isIf prog 82=false ∧
 zeroOf prog 82=some [.t .nilf] ∧
 isInt prog 82=none ∧
 zD prog 99=1 ∧
 yi prog 99=false ∧
 known prog 99=true ∧
 prog.bytesOf 99=8 ∧
 yu prog 99=none ∧
 isStr prog 99=false ∧
 xZ prog 99=false ∧
 y8 prog 99=false ∧
 isIf prog 99=false ∧
 zeroOf prog 99=some [.t .nilf] ∧
 isInt prog 99=none ∧
 zD prog 105=2 ∧
 yi prog 105=true ∧
 known prog 105=true ∧
 prog.bytesOf 105=32 ∧
 yu prog 105=none ∧
 isStr prog 105=false ∧
 xZ prog 105=false ∧
 y8 prog 105=false ∧
 isIf prog 105=false ∧
 tn prog 105=true ∧
 eE prog 105=true ∧
 nFs prog 105=2 ∧
 fOf prog 105 0=some (0,1,false) ∧
 fTy prog 105 0=9 ∧
 fOf prog 105 1=some (1,1,false) ∧
 fTy prog 105 1=9 ∧
 zeroOf prog 105=some [.t (.str []),.t (.str [])] ∧
 isInt prog 105=none ∧
 zD prog 116=1 ∧
 yi prog 116=false ∧
 known prog 116=true ∧
 prog.bytesOf 116=24 ∧
 yu prog 116=some 151 ∧
 isStr prog 116=false ∧
 xZ prog 116=true ∧
 y8 prog 116=false ∧
 isIf prog 116=false ∧
 zeroOf prog 116=some [.nil 2] ∧
 isInt prog 116=none ∧
 zD prog 127=1 ∧
 yi prog 127=false ∧
 known prog 127=true ∧
 prog.bytesOf 127=24 ∧
 yu prog 127=some 3 ∧
 isStr prog 127=false ∧
 xZ prog 127=true ∧
 y8 prog 127=false ∧
 isIf prog 127=false ∧
 zeroOf prog 127=some [.nil 1] ∧
 isInt prog 127=none ∧
 zD prog 129=3 ∧
 yi prog 129=true ∧
 known prog 129=true ∧
 prog.bytesOf 129=40 ∧
 yu prog 129=none ∧
 isStr prog 129=false ∧
 xZ prog 129=false ∧
 y8 prog 129=false ∧
 isIf prog 129=false ∧
 tn prog 129=true ∧
 fOf prog 129 0=some (0,1,false) ∧
 fTy prog 129 0=22 ∧
 fOf prog 129 1=some (1,1,false) ∧
 fTy prog 129 1=3 ∧
 fOf prog 129 2=some (2,1,false) ∧
 fTy prog 129 2=3 ∧
 zeroOf prog 129=some [.nil 1,.t (.int .i64 0),.t (.int .i64 0)] ∧
 isInt prog 129=none ∧
 zD prog 151=2 ∧
 yi prog 151=true ∧
 known prog 151=true ∧
 prog.bytesOf 151=32 ∧
 yu prog 151=none ∧
 isStr prog 151=false ∧
 xZ prog 151=false ∧
 y8 prog 151=false ∧
 isIf prog 151=false ∧
 tn prog 151=true ∧
 eE prog 151=true ∧
 nFs prog 151=2 ∧
 fOf prog 151 0=some (0,1,false) ∧
 fTy prog 151 0=9 ∧
 fOf prog 151 1=some (1,1,false) ∧
 fTy prog 151 1=9 ∧
 zeroOf prog 151=some [.t (.str []),.t (.str [])] ∧
 isInt prog 151=none ∧
 zD prog 157=1 ∧
 yi prog 157=false ∧
 known prog 157=true ∧
 prog.bytesOf 157=8 ∧
 yu prog 157=none ∧
 isStr prog 157=false ∧
 xZ prog 157=false ∧
 y8 prog 157=false ∧
 isIf prog 157=false ∧
 zeroOf prog 157=some [.t .nilf] ∧
 isInt prog 157=none ∧
 zD prog 163=1 ∧
 yi prog 163=false ∧
 known prog 163=true ∧
 prog.bytesOf 163=16 ∧
 yu prog 163=none ∧
 isStr prog 163=false ∧
 xZ prog 163=false ∧
 y8 prog 163=false ∧
 isIf prog 163=true ∧
 zeroOf prog 163=some [.t .nili] ∧
 isInt prog 163=none ∧
 zD prog 175=1 ∧
 yi prog 175=false ∧
 known prog 175=true ∧
 prog.bytesOf 175=8 ∧
 yu prog 175=none ∧
 isStr prog 175=false ∧
 xZ prog 175=false ∧
 y8 prog 175=false ∧
 isIf prog 175=false ∧
 zeroOf prog 175=some [.t (.int .u64 0)] ∧
 isInt prog 175=some .u64 ∧
 zD prog 198=1 ∧
 yi prog 198=false ∧
 known prog 198=true ∧
 prog.bytesOf 198=8 ∧
 yu prog 198=none ∧
 isStr prog 198=false ∧
 xZ prog 198=false ∧
 y8 prog 198=false ∧
 isIf prog 198=false ∧
 zeroOf prog 198=some [.t .nilp] ∧
 isInt prog 198=none ∧
 zD prog 202=1 ∧
 yi prog 202=false ∧
 known prog 202=true ∧
 prog.bytesOf 202=8 ∧
 yu prog 202=none ∧
 isStr prog 202=false ∧
 xZ prog 202=false ∧
 y8 prog 202=false ∧
 isIf prog 202=false ∧
 zeroOf prog 202=some [.t (.int .i64 0)] ∧
 isInt prog 202=some .i64 ∧
 zD prog 210=1 ∧
 yi prog 210=false ∧
 known prog 210=true ∧
 prog.bytesOf 210=4 ∧
 yu prog 210=none ∧
 isStr prog 210=false ∧
 xZ prog 210=false ∧
 y8 prog 210=false ∧
 isIf prog 210=false ∧
 zeroOf prog 210=some [.t (.int .u32 0)] ∧
 isInt prog 210=some .u32 ∧
 zD prog 212=1 ∧
 yi prog 212=false ∧
 known prog 212=true ∧
 prog.bytesOf 212=8 ∧
 yu prog 212=none ∧
 isStr prog 212=false ∧
 xZ prog 212=false ∧
 y8 prog 212=false ∧
 isIf prog 212=false ∧
 zeroOf prog 212=some [.t (.int .u64 0)] ∧
 isInt prog 212=some .u64 ∧
 zD prog 232=1 ∧
 yi prog 232=false ∧
 known prog 232=true ∧
 prog.bytesOf 232=8 ∧
 yu prog 232=none ∧
 isStr prog 232=false ∧
 xZ prog 232=false ∧
 y8 prog 232=false ∧
 isIf prog 232=false ∧
 zeroOf prog 232=some [.t (.int .u64 0)] ∧
 isInt prog 232=some .u64 ∧
 zD prog 236=1 ∧
 yi prog 236=false ∧
 known prog 236=true ∧
 prog.bytesOf 236=8 ∧
 yu prog 236=none ∧
 isStr prog 236=false ∧
 xZ prog 236=false ∧
 y8 prog 236=false ∧
 isIf prog 236=false ∧
 zeroOf prog 236=some [.t .nilp] ∧
 isInt prog 236=none ∧
 zD prog 250=1 ∧
 yi prog 250=false ∧
 known prog 250=true ∧
 prog.bytesOf 250=8 ∧
 yu prog 250=none ∧
 isStr prog 250=false ∧
 xZ prog 250=false ∧
 y8 prog 250=false ∧
 isIf prog 250=false ∧
 zeroOf prog 250=some [.t .nilp] ∧
 isInt prog 250=none ∧
 zD prog 256=2 ∧
 yi prog 256=true ∧
 known prog 256=true ∧
 prog.bytesOf 256=2 ∧
 yu prog 256=none ∧
 isStr prog 256=false ∧
 xZ prog 256=false ∧
 y8 prog 256=false ∧
 isIf prog 256=false ∧
 tn prog 256=true ∧
 fOf prog 256 0=some (0,1,false) ∧
 fTy prog 256 0=5 ∧
 fOf prog 256 1=some (1,1,false) ∧
 fTy prog 256 1=5 ∧
 zeroOf prog 256=some [.t (.int .u8 0),.t (.int .u8 0)] ∧
 isInt prog 256=none:=by and_intros<;>kernel_rfl
namespace Z5
open Go.Proofs.Tryz
def pmT (_ _:Nat):PM:=.pure
noncomputable def pol:Pol:=Zo prog pmT zL zK (fun _=>true) (fun _ _=>none)
theorem iI:∀ f fn c,pol.no f=false→prog.funcs[f]? = some fn→fn.body=some c→xu (nF prog pol f) fn.ntmps c=true:=bu
def mJ (_:Nat):Bool:=false
def ghT (_ _:Nat):List Gh:=[]
def dmT (_ _:Nat):Bool:=false
theorem DRW:∀ (rc:Rec) (f m p n:Nat) (fs:List Fr) (k:qm) (e:Env) (h:Heap) (l:List Oper),goC ⟨prog,pol,rc,f,m⟩ (.region n l.toArray true) p fs k e h=goD ⟨prog,pol,rc,f,m⟩ (l.all (yo pol f)) (mJ f&&dmT f n) (dmT f (n+1000)) l fs k e (ghH (ghT f n) e h):=fun _ _ _ _ _ _ _ _ _ _=>ic _ _ _ _ _ _ _ _ rfl
theorem LVS:∀ f p,pol.live f p=zL f p:=fun _ _=>rfl
theorem OVS:∀ f p,pol.outs f p=zK f p:=fun _ _=>rfl
theorem PMS:∀ f d,pol.pm f d=pmT f d:=fun _ _=>rfl
theorem OWS:∀ f,pol.own f=mJ f:=fun _=>rfl
theorem DMS:∀ f n,pol.dm f n=dmT f n:=fun _ _=>rfl
theorem GHS:∀ f n,pol.gh f n=ghT f n:=fun _ _=>rfl
theorem GS:type_of% @LVS∧type_of% @OVS∧type_of% @LTS∧type_of% @TYS∧type_of% @PMS∧type_of% @OWS∧type_of% @GHS∧type_of% @DMS∧type_of% @pmT.eq_1∧type_of% @mJ.eq_1∧type_of% @ghT.eq_1∧type_of% @dmT.eq_1:=⟨@LVS,@OVS,@LTS,@TYS,@PMS,@OWS,@GHS,@DMS,@pmT.eq_1,@mJ.eq_1,@ghT.eq_1,@dmT.eq_1⟩
theorem N7 (W0:World):lX prog W0 pol:=⟨fun g args v hv=>(by cases hv),fun g args h v h' hv=>(by cases hv)⟩
end Z5
def iL (sz:Nat)(args:List V)(h:Heap):Option (V×Heap) :=
 match args,h with
 | [.t (.list s es)],[]=>if s=sz∧es.length≤4194304 then some (.sl 0 0 es.length none,[.ts sz es]) else none
 | _,_=>none
theorem VB (W0 : World) (g sz : Nat) (ht : EV prog Z5.pol (.callO false g [.t (.nlist true sz [])] []) = some (.call (.nil sz) []))
 (hf:∀ es:List (List T),es.length≤4194304→EV prog Z5.pol (.callO false g [.t (.nlist false sz es)] [])=some (.call (.sl 0 0 es.length none) [.ts sz es])):ov prog W0 g (iL sz):=by
 intro args h v h' hv;unfold iL at hv
 split at hv
 · rename_i s es
   split at hv
   · rename_i hl;obtain⟨rfl,hl⟩:=hl
     cases hv;refine⟨(iH (Z5.N7 W0) Z5.iI ht).1,fun Ow w F ρ us hB hS hO hu=>?_⟩;obtain⟨us⟩:=us
     change RVs w F ρ us _ at hu
     cases hu with
     | cons h1 h2 =>
     cases h2
     cases h1 with
     | t u x hx =>
     have hx0:=hx
     cases hx with
     | list a n c sz es g' hn hc h0 hz hr =>
     cases ha:a.isNone with
     | false =>
      exact (iH (Z5.N7 W0) Z5.iI (hf es hl)).2 Ow w F ρ _ hB hS hO (.cons (.t _ _ (.nlist _ _ _ _ _ _ ha hx0)) .nil)
     | true =>
      have hes:es=[]:=by
       cases es with
       | nil=>rfl
       | cons e r =>
        obtain⟨b,o,e1,_⟩:=h0 (by simp at hn;omega);rw[e1]at ha;cases ha
      subst hes;refine ((iH (Z5.N7 W0) Z5.iI ht).2 Ow w F ρ _ hB hS hO (.cons (.t _ _ (.nlist _ _ _ _ _ _ ha hx0)) .nil)).mono fun e w' hp=>?_
      obtain⟨u,F',ρ',e1,e2,e3,e4,e5⟩:=hp
      cases e2 with
      | nil _ =>
      refine⟨_,F',fun r=>if r=0 then some none else ρ' r,e1,.slP 0 none _ (by simp) (.inl rfl),⟨?_,?_,e3.fsz,?_,⟨fun _ _ _ _=>False,fun r i j x ho=>?_,fun _ _ _ _ h=>h.elim,fun _ _ _ _ _ _ _ h=>h.elim,fun _ _ _ _ _ _ _ h=>h.elim⟩⟩,e4,fun r l hr=>by simp at hr⟩
      · intro r b hr
        match r with
        | 0=>simp at hr;subst hr;exact .inr ⟨by simp,rfl⟩
        | r+1=>simp at hr
      · intro r r' b b' L L' hr hr' _ _ hL
        match r with
        | 0=>simp at hL
        | r+1=>simp at hr
      · intro r hr;have h1:=e3.out r (Nat.zero_le _)
        match r with
        | 0=>simp at hr
        | r+1=>simpa using h1
      · obtain⟨s,e,c,h1,_⟩:=ho
        match r with
        | 0=>simp at h1
        | r+1=>simp at h1
   · cases hv
 · cases hv
namespace Z5
open Go.Proofs.Tryz
theorem clS_t:EV prog pol (.callO false 135 [.t (.nlist true 1 [])] [])=some (.call (.nil 1) []):=by
 refine zM func135 rfl (by kernel_rfl) ?_;unfold Tryz.f135;simp (disch:=(try simp only[LL]);omega) only[↓GO,↓DRW,GA,GX,ren,zk,za,refs,z8,cst,zo,isC,bin,una,z7,zd,blt,asArg,zg,zc,zf,z6,zr,unN,ze,zm,zb,GS,simprocAttr]
theorem clS_f (es:List (List T))(hl:es.length≤4194304):EV prog pol (.callO false 135 [.t (.nlist false 1 es)] [])=some (.call (.sl 0 0 es.length none) [.ts 1 es]):=by
 refine zM func135 rfl (by kernel_rfl) ?_;unfold Tryz.f135;simp (disch:=(try simp only[LL]);omega) only[↓GO,↓DRW,GA,GX,ren,zk,za,refs,z8,cst,zo,isC,bin,una,z7,zd,blt,asArg,zg,zc,zf,z6,zr,unN,ze,zm,zb,GS,simprocAttr,yf]
end Z5
theorem VC (W0:World):ov prog W0 135 (iL 1):=VB W0 _ 1 Z5.clS_t Z5.clS_f
end Go.Proofs.YtefkoljdebekdaaGreatDoor
/- The seat's facts: the policy; what is shown by other means. Conditions: none. -/
namespace Go.Proofs.YtefkoljdebekdaaGreatDoor
open Go.Proofs.Tryz
open E
def pmT (f d:Nat):PM :=
 if f=94∧(d=14∨d=18∨d=20∨d=22∨d=24) then .opn false else
 if f=131∧d=7 then .opn false else
 if f=68∧d=9 then .opn false else
 if f=132∧d=9 then .opn false else
 if f=95∧d=5 then .opn false else
 if f=134∧d=5 then .opn false else
 if f=241∧(d=18∨d=21∨d=30∨d=37∨d=39∨d=59∨d=61) then .opn false else
 if f=161 then .opn false else
 if f=96∧d=5 then .opn false else
 if f=202∧(d=13∨d=25) then .opn false else
 if f=195 then .opn false else
 if f=133∧(d=11∨d=18∨d=26∨d=42∨d=49∨d=72) then .opn false else
 if f=50∧(d=6∨d=16∨d=18∨d=25∨d=35∨d=80) then .opn false else
 if f=107∧(d=11∨d=20∨d=25∨d=28) then .opn false else
 if f=99 then .opn false else
 if f=100 then .opn false else
 if f=108 then .opn false else
 if f=101∧(d=12∨d=21∨d=28∨d=31) then .opn false else
 if f=31 then .opn false else
 if f=32∧d=7 then .opn false else
 if f=32∧(d=9∨d=13) then .opn true else
 if f=36∧(d=12∨d=21) then .opn false else
 if f=36∧(d=14∨d=17∨d=29) then .opn true else
 if f=35∧d=22 then .frz else
 if f=41∧d=30 then .frz else
 if f=41∧d=55 then .opn false else
 if f=103∧(d=14∨d=47) then .opn false else
 if f=118∧d=37 then .opn false else
 if f=109∧(d=21∨d=23) then .opn false else
 if f=44∧d=27 then .frz else
 if f=121∧d=33 then .frz else
 if f=240∧d=11 then .frz else
 if f=200∧d=20 then .opn false else
 .pure
def mJ (f:Nat):Bool :=
 if f=36 then true else
 if f=196 then true else
 if f=133 then true else
 if f=50 then true else
 false
def ghT (f n:Nat):List Gh :=
 if f=196∧n=2 then [⟨.unf,2,some 5,[(3,true),(5,true)],some 1⟩] else
 if f=196∧n=3 then [⟨.fold,2,some 5,[(3,true),(5,true)],some 1⟩] else
 if f=196∧n=4 then [⟨.fold,2,some 5,[(3,true),(5,true)],some 1⟩] else
 if f=196∧n=5 then [⟨.fold,2,some 5,[(3,true),(5,true)],some 1⟩] else
 if f=133∧n=3 then [⟨.fold,3,none,[(1,false)],none⟩,⟨.unf,3,none,[(1,false)],none⟩] else
 if f=133∧n=9 then [⟨.fold,3,none,[(0,true)],none⟩] else
 if f=133∧n=16 then [⟨.unf,3,some 7,[(3,true),(5,true)],some 1⟩,⟨.unf,3,some 8,[(3,true),(5,true)],some 1⟩] else
 if f=133∧n=14 then [⟨.fold,3,some 7,[(3,true),(5,true)],some 1⟩,⟨.fold,3,some 8,[(3,true),(5,true)],some 1⟩] else
 if f=133∧n=18 then [⟨.unf,3,none,[(0,true)],none⟩,⟨.unf,3,some 7,[(3,true),(5,true)],some 1⟩] else
 if f=133∧n=11 then [⟨.fold,3,none,[(0,true)],none⟩,⟨.fold,3,some 7,[(3,true),(5,true)],some 1⟩] else
 if f=133∧n=19 then [⟨.unf,3,none,[(0,true)],none⟩] else
 if f=50∧n=11 then [⟨.unf,3,some 4,[(5,true)],some 1⟩] else
 if f=50∧n=17 then [⟨.unf,3,some 4,[(3,false)],some 1⟩] else
 if f=50∧n=19 then [⟨.unf,3,some 4,[(3,true),(5,true)],some 1⟩,⟨.frz,3,some 4,[(3,true),(5,true)],some 1⟩] else
 if f=50∧n=20 then [⟨.frz,3,some 4,[(3,true),(5,true)],some 1⟩] else
 []
def dmT (f n:Nat):Bool :=
 if f=36∧n=5 then true else
 if f=196∧(n=4∨n=1004) then true else
 if f=133∧(n=16∨n=18) then true else
 if f=50∧(n=7∨n=9∨n=11∨n=17∨n=19) then true else
 false
def drT (_:Nat):Bool:=true
def ej (f:Nat)(args:List V):Option V :=
 if f=191 then WD args else
 if f=194 then nk args else
 if f=227 then WE args else
 if f=188 then WN args else
 if f=125 then Pb args else
 if f=126 then dF args else
 none
def sJ (f:Nat)(args:List V)(h:Heap):Option (V×Heap) :=
 if f=163 then Wu args h else
 if f=167 then WJ args h else
 if f=135 then iL 1 args h else
 none
noncomputable def Zu:Pol:=Zo prog pmT zL zK drT ej sJ mJ ghT dmT
theorem YV:∀ f fn c,Zu.no f=false→prog.funcs[f]? = some fn→fn.body=some c→xu (nF prog Zu f) fn.ntmps c=true:=bu
noncomputable def pol:Pol:={ Zu with no:=fun f=>Zu.no f||f==166 }
theorem iI:∀ f fn c,pol.no f=false→prog.funcs[f]? = some fn→fn.body=some c→xu (nF prog pol f) fn.ntmps c=true :=
 fun f fn c h h1 h2=>YV f fn c (by
  have h':(Zu.no f||f==166)=false:=h;rw[Bool.or_eq_false_iff]at h';exact h'.1) h1 h2
theorem DRW:∀ (rc:Rec) (f m p n:Nat) (fs:List Fr) (k:qm) (e:Env) (h:Heap) (l:List Oper),goC ⟨prog,pol,rc,f,m⟩ (.region n l.toArray true) p fs k e h=goD ⟨prog,pol,rc,f,m⟩ (l.all (yo pol f)) (mJ f&&dmT f n) (dmT f (n+1000)) l fs k e (ghH (ghT f n) e h):=fun _ _ _ _ _ _ _ _ _ _=>ic _ _ _ _ _ _ _ _ rfl
theorem LVS:∀ f p,pol.live f p=zL f p:=fun _ _=>rfl
theorem OVS:∀ f p,pol.outs f p=zK f p:=fun _ _=>rfl
theorem PMS:∀ f d,pol.pm f d=pmT f d:=fun _ _=>rfl
theorem OWS:∀ f,pol.own f=mJ f:=fun _=>rfl
theorem DMS:∀ f n,pol.dm f n=dmT f n:=fun _ _=>rfl
theorem GHS:∀ f n,pol.gh f n=ghT f n:=fun _ _=>rfl
theorem GS:type_of% @LVS∧type_of% @OVS∧type_of% @LTS∧type_of% @TYS∧type_of% @PMS∧type_of% @OWS∧type_of% @GHS∧type_of% @DMS∧type_of% @pmT.eq_1∧type_of% @mJ.eq_1∧type_of% @ghT.eq_1∧type_of% @dmT.eq_1:=⟨@LVS,@OVS,@LTS,@TYS,@PMS,@OWS,@GHS,@DMS,@pmT.eq_1,@mJ.eq_1,@ghT.eq_1,@dmT.eq_1⟩
theorem jJ (f:Nat)(args:List V)(h:Heap):pol.extO f args h=sJ f args h:=rfl
theorem qM (f:Nat)(args:List V):pol.ext f args=ej f args:=rfl
def ot (W0:World):Prop :=
 Lib.TabIs prog W0 "internal/strconv.uint64pow10" .u64 Lib.pow10Tab ∧
 ((∃ tp p, W0.var? prog "strconv.ErrSyntax" = some #[.iface tp p]) ∧ (∃ tp p, W0.var? prog "strconv.ErrRange" = some #[.iface tp p])) ∧
 (∃ m,W0.cell? ⟨Tryz.sG.g 1,0,none⟩=some (.int .i64 m)) ∧
 True
theorem XT (W0:World)(hL:ot W0)(g:Nat):ov prog W0 g (pol.extO g):=by
 intro args h v h' hv;have hv':sJ g args h=some (v,h'):=hv;clear hv;unfold sJ at hv'
 by_cases hg:g=163
 · subst hg;rw[if_pos rfl]at hv';exact Rt W0 args h v h' hv'
 rw[if_neg hg]at hv';clear hg
 by_cases hg:g=167
 · subst hg;rw[if_pos rfl]at hv';exact Qv W0 args h v h' hv'
 rw[if_neg hg]at hv';clear hg
 by_cases hg:g=135
 · subst hg;rw[if_pos rfl]at hv';exact VC W0 args h v h' hv'
 rw[if_neg hg]at hv';clear hg
 cases hv'
theorem Sn (W0:World)(hL:ot W0):lX prog W0 pol:=by
 refine⟨?_,XT W0 hL⟩;intro g args v hv;have hv':ej g args=some v:=hv;clear hv;unfold ej at hv'
 by_cases hg:g=191
 · subst hg;rw[if_pos rfl]at hv';exact Qb W0 args v hv'
 rw[if_neg hg]at hv';clear hg
 by_cases hg:g=194
 · subst hg;rw[if_pos rfl]at hv';exact ZU W0 args v hv'
 rw[if_neg hg]at hv';clear hg
 by_cases hg:g=227
 · subst hg;rw[if_pos rfl]at hv';exact Qd W0 hL.1 args v hv'
 rw[if_neg hg]at hv';clear hg
 by_cases hg:g=188
 · subst hg;rw[if_pos rfl]at hv';exact QT W0 hL.2.1.1 hL.2.1.2 args v hv'
 rw[if_neg hg]at hv';clear hg
 by_cases hg:g=125
 · subst hg;rw[if_pos rfl]at hv';exact Ou W0 hL.2.2.1 args v hv'
 rw[if_neg hg]at hv';clear hg
 by_cases hg:g=126
 · subst hg;rw[if_pos rfl]at hv';exact U6 W0 hL.2.2.1 args v hv'
 rw[if_neg hg]at hv';clear hg
 cases hv'
theorem OL (ks:List Str)(sep:Str)(h1:ks.length≤140737488355328)(h2:(Lib.join ks sep).length≤140737488355328):zy (EV prog pol) 191 [.t (.list 1 (strs ks)),.t (.str sep)]=some (.t (.str (Lib.join ks sep))) :=
 zw (l7 (by rw[qM];unfold ej;simp (config:={ decide:=true }) only[if_true,if_false,reduceIte,WD,ub];rw[if_pos ⟨h1,h2⟩]))
theorem Sq (a b:Str):zy (EV prog pol) 194 [.t (.str a),.t (.str b)]=some (.t (.int .i64 (Lib.compareBytes a b))) :=
 zw (l7 (by rw[qM];unfold ej;simp (config:={ decide:=true }) only[if_true,if_false,reduceIte,nk]))
theorem OM (n:Int)(h1 : -9223372036854775808≤n)(h2:n≤9223372036854775807):zy (EV prog pol) 227 [.t (.int .i64 n)]=some (.t (.str (Lib.itoa n))) :=
 zw (l7 (by rw[qM];unfold ej;simp (config:={ decide:=true }) only[if_true,if_false,reduceIte,WE];rw[if_pos ⟨h1,h2⟩]))
theorem OR (s:Str)(h:s.length≤281474976710656):zy (EV prog pol) 188 [.t (.str s)]=some (match Lib.atoiAll s with
 | .ok v=>.tup [.t (.int .i64 v),.t .nili]
 | Lib.NumEnd.syntax=>.tup [.t (.int .i64 0),.t .nni]
 | .range=>.tup [.t (.int .i64 (Lib.atoiSat s)),.t .nni]) :=
 zw (l7 (by rw[qM];unfold ej;simp (config:={ decide:=true }) only[if_true,if_false,reduceIte,WN];rw[if_pos h];cases Lib.atoiAll s<;>rfl))
theorem PY (s sep:Str)(h:s.length<4294967281):zy (EV prog pol) 125 [.t (.str s),.t (.str sep)]=some (.tup [.t (.str (Lib.cut s sep).1),.t (.str (Lib.cut s sep).2.1),.t (.bool (Lib.cut s sep).2.2)]) :=
 zw (l7 (by rw[qM];unfold ej;simp (config:={ decide:=true }) only[if_true,if_false,reduceIte,Pb];rw[if_pos h]))
theorem nM (s sep:Str)(h:s.length<4294967281)(h1:1≤sep.length):zy (EV prog pol) 126 [.t (.str s),.t (.str sep)]=some (.t (.list 1 (strs (qg s sep)))) :=
 zw (l7 (by rw[qM];unfold ej;simp (config:={ decide:=true }) only[if_true,if_false,reduceIte,dF];rw[if_pos ⟨h,h1⟩]))
theorem Z7 (es:List (List T))(h:es.length≤4194304):EV prog pol (.callO false 135 [.t (.list 1 es)] [])=some (.call (.sl 0 0 es.length none) [.ts 1 es]) :=
 kD (x:=(.sl 0 0 es.length none,[.ts 1 es])) (by rw[jJ];unfold sJ;simp (config:={ decide:=true }) only[if_true,if_false,reduceIte,iL];rw[if_pos ⟨trivial,h⟩])
theorem OD (ks:List Str)(h:ks.length≤1073741824)(n:Nat)(hn:n=ks.length)(cap:Option Nat):EV prog pol (.callO false 163 [.sl 0 0 n cap] [.ts 1 (strs ks)])=some (.call (.tup []) [.ts 1 (strs (vv ks))]) :=
 kD (x:=(.tup [],[.ts 1 (strs (vv ks))])) (by rw[jJ];unfold sJ;simp (config:={ decide:=true }) only[if_true,if_false,reduceIte,Wu,ub];rw[if_pos ⟨hn,h⟩])
theorem OP (ks:List Str)(h:ks.length≤1073741824)(n:Nat)(hn:n=ks.length)(cap:Option Nat):EV prog pol (.callO false 167 [.sl 0 0 n cap] [.ts 1 (strs ks)])=some (.call (.sl 0 0 (Lib.compact ks).length cap) [.ts 1 (strs (rB ks))]) :=
 kD (x:=(.sl 0 0 (Lib.compact ks).length cap,[.ts 1 (strs (rB ks))])) (by rw[jJ];unfold sJ;simp (config:={ decide:=true }) only[if_true,if_false,reduceIte,WJ,ub];rw[if_pos ⟨hn,h⟩])
end Go.Proofs.YtefkoljdebekdaaGreatDoor
/- The start's memory: what the rows' lists give. Conditions: none. -/
namespace Go.Proofs.YtefkoljdebekdaaGreatDoor
open Go.Proofs.Tryz
open Go.ChangeShapes Go.WideShapes Go.ChangeAt Go.RowKit E
theorem star : "*" ++ "errors.errorString" = "*errors.errorString" := by decide
theorem rowE (u : TypeId) (h : Tryz.prog.typeName? 3 u = some "*errors.errorString") : u = 259 :=
 typeName_ptr_named (nm := "errors.errorString") (by rw [star]; kernel_rfl) (by kernel_rfl) (by decide) u (by rw [star]; exact h)
theorem ZO {W : World} (hS : W.ShapedOpen prog) (h1 : ∃ r, laidMet prog (("internal/strconv.uint64pow10", Rows.laid_internal_strconv_uint64pow10) :: r) W)
 (h2 : ∃ r, laidMet prog (("strconv.ErrRange", Rows.laid_strconv_ErrRange) :: r) W) (h3 : ∃ r, laidMet prog (("strconv.ErrSyntax", Rows.laid_strconv_ErrSyntax) :: r) W) : ot W := by
 obtain⟨r1,h1⟩:=h1;obtain⟨r2,h2⟩:=h2;obtain⟨r3,h3⟩:=h3
 refine ⟨Lib.tabIs_of_head (k := .u64) (zs := Lib.pow10Tab) (rest := r1) (show Tryz.prog.globalNamed "internal/strconv.uint64pow10" = some 5 by kernel_rfl) (show (Tryz.prog.globals[5]?).map (·.type) = some 268 by kernel_rfl)
  Tryz.underlying268 Tryz.underlying212 (by kernel_rfl) (by kernel_rfl) h1,⟨?_,?_⟩,?_,trivial⟩
 · obtain ⟨a, s, q1, _⟩ := laid_sentinel (nm := "*errors.errorString") h3 (show Tryz.prog.globalNamed "strconv.ErrSyntax" = some 1 by kernel_rfl) (show (Tryz.prog.globals[1]?).map (·.type) = some 163 by kernel_rfl) Tryz.underlying163 rowE
    Tryz.underlying259 Tryz.underlying261 rfl rfl Tryz.underlying9 (by kernel_rfl) (by kernel_rfl)
   exact⟨_,_,q1⟩
 · obtain ⟨a, s, q1, _⟩ := laid_sentinel (nm := "*errors.errorString") h2 (show Tryz.prog.globalNamed "strconv.ErrRange" = some 2 by kernel_rfl) (show (Tryz.prog.globals[2]?).map (·.type) = some 163 by kernel_rfl) Tryz.underlying163 rowE
    Tryz.underlying259 Tryz.underlying261 rfl rfl Tryz.underlying9 (by kernel_rfl) (by kernel_rfl)
   exact⟨_,_,q1⟩
 · exact Tryz.bY.s1_3 W hS
end Go.Proofs.YtefkoljdebekdaaGreatDoor
/- An open call's answer, given away: the same call with frozen values. Conditions: those of each lemma. -/
namespace Go.Proofs.YtefkoljdebekdaaGreatDoor.E
open Go.Proofs.Tryz
variable {P:Program} {pol:Pol}
theorem EV_un {req:Req}{r:xV}(h:EV P pol req=some r):step P pol (EV P pol) req=some r:=by
 obtain⟨n,hn⟩:=WQ h
 cases n with
 | zero=>simp[it]at hn
 | succ n=>exact (qo req).mono _ _ (fun req r h=>R9 h) r hn
structure Sim (mp:Nat→Option Nat) (h hp:Heap):Prop where
 row:∀ r r',mp r=some r'→hp[r']? = some (zk mp (h[r]?.getD .dead))
 inj:∀ r s k,mp r=some k→mp s=some k→r=s
theorem Qg (mp:Nat→Option Nat)(v:V):gvC (ren mp v)=gvC v:=by
 cases v with
 | sl r off len cap=>simp only[ren];split<;>rfl
 | ptr r i j=>simp only[ren];split<;>rfl
 | _=>simp only[ren,gvC]
theorem af (mp:Nat→Option Nat):∀ vs:List V,qk (ren.rens mp vs)=qk vs
 | []=>by simp only[ren.rens]
 | v::vs=>by simp only[ren.rens,qk,Qg,af mp vs]
theorem XG (mp:Nat→Option Nat):∀ es:List (List V),gvE (es.map (ren.rens mp))=gvE es
 | []=>rfl
 | c::cs=>by simp only[List.map_cons,gvE,af,XG mp cs]
theorem Zg (mp:Nat→Option Nat):∀ vs:List V,xm (ren.rens mp vs)=xm vs
 | []=>by simp only[ren.rens]
 | v::vs=>by
  simp only[ren.rens,xm,Zg mp vs]
  cases v with
  | sl r off len cap=>simp only[ren];split<;>rename_i h<;>revert h<;>split<;>simp_all
  | ptr r i j=>simp only[ren];split<;>rename_i h<;>revert h<;>split<;>simp_all
  | _=>simp only[ren]
theorem Sim.set {mp:Nat→Option Nat}{h hp:Heap}(hS:Sim mp h hp){r r':Nat}(hr:mp r=some r')(hl:r<h.length){b:Blk}(hb:zk mp b=b):Sim mp (h.set r b) (hp.set r' b):=by
 refine⟨fun s s' hs=>?_,hS.inj⟩;have h1:=hS.row s s' hs
 by_cases e:s=r
 · subst e;rw[hr]at hs
   cases hs;have hlt:r'<hp.length:=by
    rcases Nat.lt_or_ge r' hp.length with h2|h2
    · exact h2
    · rw[List.getElem?_eq_none h2]at h1;cases h1
   rw[List.getElem?_set_self hlt,List.getElem?_set_self hl,Option.getD_some,hb]
 · have e':r'≠s':=fun e2=>e (by subst e2;exact hS.inj _ _ _ hs hr)
   rw[List.getElem?_set_ne e',List.getElem?_set_ne (fun e2=>e e2.symm),h1]
theorem Qi {mp:Nat→Option Nat}{h hp:Heap}(hS:Sim mp h hp){r off len:Nat}{cap:Option Nat}{x:V}{hp':Heap}(hg:yk hp (ren mp (.sl r off len cap))=some (x,hp')):∃ h',yk h (.sl r off len cap)=some (x,h')∧Sim mp h' hp':=by
 simp only[ren]at hg
 cases hm:mp r with
 | none=>simp[hm,yk]at hg
 | some r' =>
  have h1:=hS.row r r' hm;simp only[hm,yk,h1]at hg ⊢
  cases hb:h[r]? with
  | none=>simp[hb,zk]at hg
  | some b =>
   have hl:r<h.length:=by
    rcases Nat.lt_or_ge r h.length with h2|h2
    · exact h2
    · rw[List.getElem?_eq_none h2]at hb;cases hb
   rw[hb]at hg;simp only[Option.getD_some]at hg
   cases b with
   | ts sz es =>
    simp only[zk,Option.some.injEq,Prod.mk.injEq]at hg ⊢;obtain⟨e1,e2⟩:=hg;exact⟨_,⟨e1,rfl⟩,by rw[← e2];exact hS.set hm hl rfl⟩
   | fz sz es =>
    simp only[zk,Option.some.injEq,Prod.mk.injEq]at hg ⊢;obtain⟨e1,e2⟩:=hg;exact⟨_,⟨e1,rfl⟩,by rw[← e2];exact hS⟩
   | vs sz es =>
    simp only[zk,XG]at hg ⊢
    cases hq:gvE es with
    | none=>simp[hq]at hg
    | some xs =>
     simp only[hq,Option.some.injEq,Prod.mk.injEq]at hg ⊢;obtain⟨e1,e2⟩:=hg;exact⟨_,⟨e1,rfl⟩,by rw[← e2];exact hS.set hm hl rfl⟩
   | _=>simp[zk]at hg
mutual
theorem ax {mp:Nat→Option Nat}:∀ (v:V) {h hp:Heap},Sim mp h hp→∀ {x:V} {hp':Heap},yk hp (ren mp v)=some (x,hp')→∃ h',yk h v=some (x,h')∧Sim mp h' hp'
 | .sl r off len cap,h,hp,hS,x,hp',hg=>Qi hS hg
 | .ptr r i j,h,hp,hS,x,hp',hg=>by
  simp only[ren]at hg
  split at hg<;>simp[yk]at hg
 | .agg cs, h, hp, hS, x, hp', hg => by
  simp only[ren,yk]at hg ⊢
  cases hq:yk.gives hp (ren.rens mp cs) with
  | none=>simp[hq]at hg
  | some y =>
   obtain⟨ys,h2⟩:=y;obtain⟨h',h3,h4⟩:=mq cs hS hq;simp only[hq,h3,Option.some.injEq,Prod.mk.injEq]at hg ⊢;obtain⟨e1,rfl⟩:=hg;exact⟨h',⟨e1,rfl⟩,h4⟩
 | .tup cs, h, hp, hS, x, hp', hg => by
  simp only[ren,yk]at hg ⊢
  cases hq:yk.gives hp (ren.rens mp cs) with
  | none=>simp[hq]at hg
  | some y =>
   obtain⟨ys,h2⟩:=y;obtain⟨h',h3,h4⟩:=mq cs hS hq;simp only[hq,h3,Option.some.injEq,Prod.mk.injEq]at hg ⊢;obtain⟨e1,rfl⟩:=hg;exact⟨h',⟨e1,rfl⟩,h4⟩
 | .fn f cs, h, hp, hS, x, hp', hg => by
  simp only[ren,yk,Zg]at hg ⊢
  cases hq:xm cs with
  | none=>simp[hq]at hg
  | some xs =>
   simp only[hq,Option.some.injEq,Prod.mk.injEq]at hg ⊢;obtain⟨e1,rfl⟩:=hg;exact⟨h,⟨e1,rfl⟩,hS⟩
 | .t x,h,hp,hS,y,hp',hg=>by
  simp only[ren,yk,Option.some.injEq,Prod.mk.injEq]at hg ⊢;obtain⟨e1,rfl⟩:=hg;exact⟨h,⟨e1,rfl⟩,hS⟩
 | .nil sz,h,hp,hS,y,hp',hg=>by
  simp only[ren,yk,Option.some.injEq,Prod.mk.injEq]at hg ⊢;obtain⟨e1,rfl⟩:=hg;exact⟨h,⟨e1,rfl⟩,hS⟩
 | .o x,h,hp,hS,y,hp',hg=>by simp[ren,yk]at hg
 | .und,h,hp,hS,y,hp',hg=>by simp[ren,yk]at hg
 | .bad,h,hp,hS,y,hp',hg=>by simp[ren,yk]at hg
theorem mq {mp:Nat→Option Nat}:∀ (vs:List V) {h hp:Heap},Sim mp h hp→∀ {xs:List V} {hp':Heap},yk.gives hp (ren.rens mp vs)=some (xs,hp')→∃ h',yk.gives h vs=some (xs,h')∧Sim mp h' hp'
 | [],h,hp,hS,xs,hp',hg=>by
  simp only[ren.rens,yk.gives,Option.some.injEq,Prod.mk.injEq]at hg ⊢;obtain⟨e1,rfl⟩:=hg;exact⟨h,⟨e1,rfl⟩,hS⟩
 | v :: vs, h, hp, hS, xs, hp', hg => by
  simp only[ren.rens,yk.gives]at hg ⊢
  cases hq:yk hp (ren mp v) with
  | none=>simp[hq]at hg
  | some y =>
   obtain⟨y,h2⟩:=y;obtain⟨h3,k1,k2⟩:=ax v hS hq;simp only[hq,k1]at hg ⊢
   cases hq2:yk.gives h2 (ren.rens mp vs) with
   | none=>simp[hq2]at hg
   | some z =>
    obtain⟨zs,h4⟩:=z;obtain⟨h5,k3,k4⟩:=mq vs k2 hq2;simp only[hq2,k3,Option.some.injEq,Prod.mk.injEq]at hg ⊢;obtain⟨e1,rfl⟩:=hg;exact⟨h5,⟨e1,rfl⟩,k4⟩
end
theorem VX (mp:Nat→Option Nat):∀ vs:List V,zm (ren.rens mp vs)=ren mp (zm vs)
 | []=>by simp only[ren.rens,zm,ren]
 | [v]=>by simp only[ren.rens,zm]
 | v::w::vs=>by simp only[ren.rens,zm,ren]
theorem Rv (ids:List Nat)(h:Heap):Sim (idx ids) h (ids.map fun r=>zk (idx ids) (h[r]?.getD .dead)):=by
 refine⟨fun r r' hr=>?_,fun r s k h1 h2=>?_⟩
 · rw[List.getElem?_map,kt hr];rfl
 · have e1:=kt h1;rw[kt h2]at e1
   cases e1;rfl
theorem di {g : Nat} {args : List V} {v x : V} {rows h2 : Heap} (he : pol.ext g args = none) (heO : pol.extO g args [] = none) (h : EV P pol (.callO false g args []) = some (.call v rows)) (hg : yk rows v = some (x, h2)) : zy (EV P pol) g args = some x := by
 have hs:=EV_un h
 have hc : step P pol (EV P pol) (.call g args []) = some (.call x []) := by
  simp only[step,he,heO]at hs ⊢
  cases hf:P.funcs[g]? with
  | none=>simp[hf]at hs
  | some fn =>
   simp only[hf]at hs ⊢
   cases hb:fn.body with
   | none=>simp[hb]at hs
   | some c =>
    simp only[hb]at hs ⊢
    split at hs
    · cases hs
    · rename_i hn;rw[if_neg hn];simp only[List.length_nil]at hs ⊢;have fin:∀ (e':Env) (h':Heap),nu false 0 (vJ P e' h' fn.results.toList) h'=some (.call v rows)→(match vJ P e' h' fn.results.toList with
       | some vs=>match yk h' (zm vs) with
        | some (v,h'')=>some (xV.call v (h''.take 0))
        | none=>none
       | none=>none)=some (.call x []):=fun e' h' hr=>by
       cases hv:vJ P e' h' fn.results.toList with
       | none=>simp[hv,nu]at hr
       | some vs =>
        simp only[hv,nu,Bool.false_eq_true,if_false,Option.some.injEq,xV.call.injEq]at hr ⊢;obtain⟨e1,e2⟩:=hr;unfold ym at e1 e2;simp only at e1 e2;rw[← e1,← e2,VX]at hg;obtain⟨h3,k1,_⟩:=ax (zm vs) (Rv _ h') hg;rw[k1];simp
      cases hev:evC P pol (EV P pol) g 0 c 1 (zb (List.range args.length) args) [] with
      | none=>simp[hev]at hs
      | some y =>
       obtain⟨ex,e',h'⟩:=y
       cases ex with
       | normal=>simp only[hev]at hs ⊢;exact fin e' h' hs
       | ret=>simp only[hev]at hs ⊢;exact fin e' h' hs
       | exit n=>simp[hev]at hs
 unfold zy;rw[qT hc]
end Go.Proofs.YtefkoljdebekdaaGreatDoor.E
/- The numbers that the draws take: from each state the chosen one is reached. Conditions: none. -/
namespace Go.Proofs.YtefkoljdebekdaaGreatDoor
open Go.Proofs.Tryz
open E
def Fn (a c:Int):Nat→Int→Int
 | 0,x=>x
 | n+1,x=>a*Fn a c n x+c
theorem Yx (a c:Int):∀ m n x,Fn a c (m+n) x=Fn a c m (Fn a c n x)
 | 0,n,x=>by rw[Nat.zero_add];rfl
 | m+1,n,x=>by rw[show m+1+n=(m+n)+1 by omega,Fn,Fn,Yx a c m n x]
theorem SD (a c s0 t0:Int)(ha:a=1+4*s0)(hc:c=2*t0+1):∀ k:Nat,∃ s t:Int,∀ x,Fn a c (2 ^ k) x=x+4*2 ^ k*s*x+2 ^ k*(2*t+1)
 | 0=>⟨s0,t0,fun x=>by
  show a*x+c=_
  subst ha hc
  grind⟩
 | k+1=>by
  obtain⟨s,t,h⟩:=SD a c s0 t0 ha hc k;refine⟨s+2*2 ^ k*s*s,t+2 ^ k*s*(2*t+1),fun x=>?_⟩;rw[show (2:Nat) ^ (k+1)=2 ^ k+2 ^ k by rw[Nat.pow_succ];omega,Yx,h,h,Int.pow_succ];generalize (2:Int) ^ k=p
  grind
theorem Zm (a c s0 t0:Int)(ha:a=1+4*s0)(hc:c=2*t0+1)(x y:Int):∀ k:Nat,∃ (n:Nat) (q:Int),Fn a c n x=y+2 ^ k*q
 | 0=>⟨0,x - y,by show x=_;grind⟩
 | k+1=>by
  obtain⟨n,q,h⟩:=Zm a c s0 t0 ha hc x y k;obtain⟨s,t,g⟩:=SD a c s0 t0 ha hc k;rcases Int.emod_two_eq q with e|e
  · refine⟨n,q / 2,?_⟩;have e2:q=2*(q / 2):=by omega
    rw[h,Int.pow_succ];generalize (2:Int) ^ k=p at *;generalize q / 2=r at *;subst e2
    grind
  · refine⟨2 ^ k+n,q / 2+t+1+2*s*(y+2 ^ k*q),?_⟩;have e2:q=2*(q / 2)+1:=by omega
    rw[Yx,h,g,Int.pow_succ];generalize (2:Int) ^ k=p at *;generalize q / 2=r at *;subst e2
    grind
def w64 (x:Int):Int:=IntKind.i64.wrap x
theorem eK (x:Int):∃ q:Int,w64 x=x+2 ^ 64*q:=by
 refine⟨-((x+9223372036854775808) / 18446744073709551616),?_⟩;unfold w64;rw[IntKind.wrap_i64];omega
theorem Ty (x:Int) : -9223372036854775808≤w64 x∧w64 x≤9223372036854775807:=by
 unfold w64;rw[IntKind.wrap_i64];omega
theorem w64_eq {x y q:Int}(hy : -9223372036854775808≤y∧y≤9223372036854775807)(h:x=y+2 ^ 64*q):w64 x=y:=by
 obtain⟨q',e⟩:=eK x;have:=Ty x;omega
def lcA:Int:=6364136223846793005
def lcC:Int:=1442695040888963407
def lcg (h:Int):Int:=w64 (w64 (h*lcA)+lcC)
def nz:Nat→Int→Int
 | 0,h=>h
 | n+1,h=>lcg (nz n h)
theorem bW:∀ m n h,nz (m+n) h=nz m (nz n h)
 | 0,n,h=>by rw[Nat.zero_add];rfl
 | m+1,n,h=>by rw[show m+1+n=(m+n)+1 by omega,nz,nz,bW m n h]
theorem S2 (h:Int) : -9223372036854775808≤lcg h∧lcg h≤9223372036854775807:=Ty _
theorem Xh (h:Int):∀ n,∃ q,nz n h=Fn lcA lcC n h+2 ^ 64*q
 | 0=>⟨0,by show h=h+_;omega⟩
 | n+1=>by
  obtain⟨q,e⟩:=Xh h n
  show ∃ q,lcg (nz n h)=lcA*Fn lcA lcC n h+lcC+2 ^ 64*q
  unfold lcg;obtain⟨q1,e1⟩:=eK (nz n h*lcA);obtain⟨q2,e2⟩:=eK (w64 (nz n h*lcA)+lcC);refine⟨lcA*q+q1+q2,?_⟩;rw[e2,e1,e];generalize lcA=a;generalize Fn a lcC n h=z;generalize lcC=c;generalize (2:Int) ^ 64=p
  grind
theorem Vk (h y:Int)(hh : -9223372036854775808≤h∧h≤9223372036854775807)(hy : -9223372036854775808≤y∧y≤9223372036854775807):∃ n,nz n h=y:=by
 obtain⟨n,q,e⟩:=Zm lcA lcC 1591034055961698251 721347520444481703 (by decide) (by decide) h y 64;obtain⟨q',e'⟩:=Xh h n;refine⟨n,?_⟩;have hr : -9223372036854775808≤nz n h∧nz n h≤9223372036854775807:=by
  cases n with
  | zero=>exact hh
  | succ n=>exact S2 _
 omega
def Pc (x y:Int):Int:=IntKind.i64.wrap (((BitVec.ofInt 64 x ^^^ BitVec.ofInt 64 y).toNat:Nat):Int)
def eH (x y:Int):Int:=IntKind.i64.wrap (((BitVec.ofInt 64 x &&& BitVec.ofInt 64 y).toNat:Nat):Int)
theorem SC (x:Int):∃ n:Nat,n≤255∧eH x 255=(n:Int):=by
 have h:(BitVec.ofInt 64 x &&& BitVec.ofInt 64 255).toNat≤255:=by
  rw[BitVec.toNat_and];exact Nat.le_trans Nat.and_le_right (by decide)
 refine⟨_,h,?_⟩;unfold eH;exact zi (by omega)
def N5 (h:Int):Int:=eH (Pc (h.fdiv (2 ^ 33)) (h.fdiv (2 ^ 45))) 255
abbrev Cs:=Nat×Int
def nxI (bs:List Int)(c:Cs):Int:=match bs[c.1]? with
 | some b=>eH (w64 (N5 (lcg c.2)+b)) 255
 | none=>N5 (lcg c.2)
def nxC (bs:List Int)(c:Cs):Cs:=match bs[c.1]? with
 | some _=>(c.1+1,lcg c.2)
 | none=>(c.1,lcg c.2)
theorem Xb (bs:List Int)(c:Cs):∃ n:Nat,n≤255∧nxI bs c=(n:Int):=by
 unfold nxI
 split
 · exact SC _
 · exact SC _
def nxN (bs:List Int)(c:Cs):Nat:=(nxI bs c).toNat
theorem iJ (bs:List Int)(c:Cs):nxN bs c≤255:=by
 obtain⟨n,h1,h2⟩:=Xb bs c;unfold nxN;rw[h2];simpa using h1
theorem Ya (bs:List Int)(c:Cs):nxI bs c=(nxN bs c:Int):=by
 obtain⟨n,h1,h2⟩:=Xb bs c;unfold nxN;rw[h2];simp
theorem mQ (bs:List Int)(c:Cs)(h:c.1≤bs.length):(nxC bs c).1≤bs.length:=by
 unfold nxC
 split
 · rename_i b hb;have:=(List.getElem?_eq_some_iff.1 hb).1;exact this
 · exact h
def xK (bs:List Int):Nat→Cs→Cs
 | 0,c=>c
 | n+1,c=>xK bs n (nxC bs c)
def o7 (bs:List Int):Cs:=(bs.length,9)
theorem rY (bs:List Int):∀ m n c,xK bs (m+n) c=xK bs n (xK bs m c)
 | 0,n,c=>by rw[Nat.zero_add];rfl
 | m+1,n,c=>by rw[show m+1+n=(m+n)+1 by omega,xK,xK,rY bs m n]
theorem jN (bs:List Int)(h:Int):nxC bs (bs.length,h)=(bs.length,lcg h):=by
 unfold nxC;simp
theorem mg (bs:List Int):∀ n h,xK bs n (bs.length,h)=(bs.length,nz n h)
 | 0,h=>rfl
 | n+1,h=>by
  rw[xK,jN,mg bs n]
  congr 1
  have:=bW n 1 h;rw[this];rfl
theorem YB (bs:List Int):∀ (k:Nat) (c:Cs),c.1+k=bs.length→∃ n h,xK bs n c=(bs.length,h)
 | 0,c,hc=>⟨0,c.2,by show c=_;ext1<;>simp_all⟩
 | k + 1, c, hc => by
  have hb:(nxC bs c).1+k=bs.length:=by
   unfold nxC;rw[List.getElem?_eq_getElem (show c.1<bs.length by omega)];simp only;omega
  obtain⟨n,h,e⟩:=YB bs k (nxC bs c) hb;exact⟨n+1,h,e⟩
theorem ZB (bs:List Int)(c:Cs)(hc:c.1≤bs.length):∃ n,xK bs n c=o7 bs:=by
 obtain⟨n,h,e⟩:=YB bs (bs.length - c.1) c (by omega);obtain⟨m,e2⟩:=Vk (lcg h) 9 (S2 h) (by decide);refine⟨n+(1+m),?_⟩;rw[rY,e,rY,mg,mg]
 show (bs.length,nz m (lcg h))=_
 rw[e2];rfl
theorem U5 (bs:List Int):nxN bs (o7 bs)=179∧nxN bs (nxC bs (o7 bs))=203∧nxN bs (nxC bs (nxC bs (o7 bs)))=89:=by
 unfold o7;rw[jN,jN];unfold nxN nxI;simp only[List.getElem?_eq_none (Nat.le_refl bs.length)];exact⟨by decide +kernel,by decide +kernel,by decide +kernel⟩
theorem sA (a lo hi:Int):zy (EV prog pol) 52 [.t (.int .i64 a),.t (.int .i64 lo),.t (.int .i64 hi)]=some (.t (.bool (B2 a lo hi))):=by
 apply zw;refine zx rfl func52 rfl (by kernel_rfl) ?_;unfold Tryz.f52;unfold B2
 repeat' (first|(((first|with_reducible refine mZ (fun hA=>?_) (fun hA=>?_)|with_reducible refine mU (fun hA=>?_) (fun hA=>?_))<;>(try simp only[bne,Bool.not_eq_true',Bool.not_eq_false']at hA)<;>(first|(have hP:=Int.le_of_eq (eq_of_beq (α:=Int) hA);have hQ:=Int.le_of_eq (eq_of_beq (α:=Int) hA).symm)|have hP:=of_decide_eq_true hA|have hP:=of_decide_eq_false hA|skip))<;>(simp (disch:=(try simp only[LL]);omega) only[↓GO,↓DRW,GA,GX,ren,zk,za,refs,z8,cst,zo,isC,bin,una,z7,zd,blt,asArg,zg,zc,zf,z6,zr,unN,ze,zm,zb,GS,simprocAttr,zi,bne, *]))|(simp (disch:=(try simp only[LL]);omega) only[↓GO,↓DRW,GA,GX,ren,zk,za,refs,z8,cst,zo,isC,bin,una,z7,zd,blt,asArg,zg,zc,zf,z6,zr,unN,ze,zm,zb,GS,simprocAttr,zi,bne, *]))
theorem wG (a lo hi:Int):zy (EV prog pol) 80 [.t (.int .i64 a),.t (.int .i64 lo),.t (.int .i64 hi)]=some (.t (.bool (B2 a lo hi))):=by
 apply zw;refine zx rfl func80 rfl (by kernel_rfl) ?_;unfold Tryz.f80;unfold B2
 repeat' (first|(((first|with_reducible refine mZ (fun hA=>?_) (fun hA=>?_)|with_reducible refine mU (fun hA=>?_) (fun hA=>?_))<;>(try simp only[bne,Bool.not_eq_true',Bool.not_eq_false']at hA)<;>(first|(have hP:=Int.le_of_eq (eq_of_beq (α:=Int) hA);have hQ:=Int.le_of_eq (eq_of_beq (α:=Int) hA).symm)|have hP:=of_decide_eq_true hA|have hP:=of_decide_eq_false hA|skip))<;>(simp (disch:=(try simp only[LL]);omega) only[↓GO,↓DRW,GA,GX,ren,zk,za,refs,z8,cst,zo,isC,bin,una,z7,zd,blt,asArg,zg,zc,zf,z6,zr,unN,ze,zm,zb,GS,simprocAttr,zi,bne,ge_iff_le, *]))|(simp (disch:=(try simp only[LL]);omega) only[↓GO,↓DRW,GA,GX,ren,zk,za,refs,z8,cst,zo,isC,bin,una,z7,zd,blt,asArg,zg,zc,zf,z6,zr,unN,ze,zm,zb,GS,simprocAttr,zi,bne,ge_iff_le, *]))
theorem fW (a:Int):zy (EV prog pol) 174 [.t (.int .u8 a)]=some (.t (.bool (B2 a 97 122))):=by
 apply zw;refine zx rfl func174 rfl (by kernel_rfl) ?_;unfold Tryz.f174;unfold B2
 repeat' (first|(((first|with_reducible refine mZ (fun hA=>?_) (fun hA=>?_)|with_reducible refine mU (fun hA=>?_) (fun hA=>?_))<;>(try simp only[bne,Bool.not_eq_true',Bool.not_eq_false']at hA)<;>(first|(have hP:=Int.le_of_eq (eq_of_beq (α:=Int) hA);have hQ:=Int.le_of_eq (eq_of_beq (α:=Int) hA).symm)|have hP:=of_decide_eq_true hA|have hP:=of_decide_eq_false hA|skip))<;>(simp (disch:=(try simp only[LL]);omega) only[↓GO,↓DRW,GA,GX,ren,zk,za,refs,z8,cst,zo,isC,bin,una,z7,zd,blt,asArg,zg,zc,zf,z6,zr,unN,ze,zm,zb,GS,simprocAttr,zi,bne,ge_iff_le, *]))|(simp (disch:=(try simp only[LL]);omega) only[↓GO,↓DRW,GA,GX,ren,zk,za,refs,z8,cst,zo,isC,bin,una,z7,zd,blt,asArg,zg,zc,zf,z6,zr,unN,ze,zm,zb,GS,simprocAttr,zi,bne,ge_iff_le, *]))
theorem mE (a:Int):zy (EV prog pol) 175 [.t (.int .u8 a)]=some (.t (.bool (B2 a 48 57))):=by
 apply zw;refine zx rfl func175 rfl (by kernel_rfl) ?_;unfold Tryz.f175;unfold B2
 repeat' (first|(((first|with_reducible refine mZ (fun hA=>?_) (fun hA=>?_)|with_reducible refine mU (fun hA=>?_) (fun hA=>?_))<;>(try simp only[bne,Bool.not_eq_true',Bool.not_eq_false']at hA)<;>(first|(have hP:=Int.le_of_eq (eq_of_beq (α:=Int) hA);have hQ:=Int.le_of_eq (eq_of_beq (α:=Int) hA).symm)|have hP:=of_decide_eq_true hA|have hP:=of_decide_eq_false hA|skip))<;>(simp (disch:=(try simp only[LL]);omega) only[↓GO,↓DRW,GA,GX,ren,zk,za,refs,z8,cst,zo,isC,bin,una,z7,zd,blt,asArg,zg,zc,zf,z6,zr,unN,ze,zm,zb,GS,simprocAttr,zi,bne,ge_iff_le, *]))|(simp (disch:=(try simp only[LL]);omega) only[↓GO,↓DRW,GA,GX,ren,zk,za,refs,z8,cst,zo,isC,bin,una,z7,zd,blt,asArg,zg,zc,zf,z6,zr,unN,ze,zm,zb,GS,simprocAttr,zi,bne,ge_iff_le, *]))
theorem wrap_u8 (b:UInt8):IntKind.i64.wrap (b.toNat:Int)=(b.toNat:Int):=by have:=SG b;exact zi (by omega)
theorem lO (b:UInt8):zy (EV prog pol) 180 [.t (.int .u8 (b.toNat:Int))]=some (.t (.bool (B2 (nb b) 97 122||B2 (nb b) 48 57))):=by
 apply zw;refine zx rfl func180 rfl (by kernel_rfl) ?_;unfold Tryz.f180;have h1:=wG (b.toNat:Int) 97 122;have h2:=wG (b.toNat:Int) 48 57
 repeat' (first|(((first|with_reducible refine mZ (fun hA=>?_) (fun hA=>?_)|with_reducible refine mU (fun hA=>?_) (fun hA=>?_))<;>(try simp only[bne,Bool.not_eq_true',Bool.not_eq_false']at hA)<;>(first|(have hP:=Int.le_of_eq (eq_of_beq (α:=Int) hA);have hQ:=Int.le_of_eq (eq_of_beq (α:=Int) hA).symm)|have hP:=of_decide_eq_true hA|have hP:=of_decide_eq_false hA|skip))<;>(simp (disch:=(try simp only[LL]);omega) only[↓GO,↓DRW,GA,GX,ren,zk,za,refs,z8,cst,zo,isC,bin,una,z7,zd,blt,asArg,zg,zc,zf,z6,zr,unN,ze,zm,zb,GS,simprocAttr,zi,bne,conv,wrap_u8, *]))|(simp (disch:=(try simp only[LL]);omega) only[↓GO,↓DRW,GA,GX,ren,zk,za,refs,z8,cst,zo,isC,bin,una,z7,zd,blt,asArg,zg,zc,zf,z6,zr,unN,ze,zm,zb,GS,simprocAttr,zi,bne,conv,wrap_u8, *]))
theorem PI (f:Nat)(p:UInt8→Bool)(hp:∀ b:UInt8,zy (EV prog pol) f [.t (.int .u8 (b.toNat:Int))]=some (.t (.bool (p b))))(s:Str)(hl:s.length≤9223372036854775807):∀ (rest pre:Str),s=pre++rest →
 EV prog pol (.loop 172 26 0 [.t (.str s),.t (.fn f []),.t (.int .i64 (s.length:Int)),.t (.int .i64 (pre.length:Int))] [])=some (cond (rest.all p) (.loop (.exit 0) [.bad] []) (.loop .ret [.t (.bool false)] []))
 | [],pre,hs=>by
  have c:decide ((pre.length:Int)<(s.length:Int))=false:=by simp[hs]
  refine zj func172 rfl rfl ?_;simp only[↓GO,↓DRW,GA,GX,ren,zk,za,refs,z8,cst,zo,isC,bin,una,z7,zd,blt,asArg,zg,zc,zf,z6,zr,unN,ze,zm,zb,GS,simprocAttr,c]
 | b :: rest, pre, hs => by
  have c:decide ((pre.length:Int)<(s.length:Int))=true:=by simp[hs];omega
  have hget:s[pre.length]? = some b:=by rw[hs];exact rm pre b rest
  have hlen:s.length=pre.length+rest.length+1:=by rw[hs];simp;omega
  have e1:(pre.length:Int)+1=((pre++[b]).length:Int):=by simp
  have IH:=PI f p hp s hl rest (pre++[b]) (by rw[hs];simp);have hb:=hp b;refine zj func172 rfl rfl ?_
  cases hpb:p b with
  | true =>
   rw[hpb]at hb;simp (disch:=omega) only[↓GO,↓DRW,GA,GX,ren,zk,za,refs,z8,cst,zo,isC,bin,una,z7,zd,blt,asArg,zg,zc,zf,z6,zr,unN,ze,zm,zb,GS,simprocAttr,c,hget,zi,hb];rw[e1,IH,hpb,Bool.true_and]
  | false =>
   rw[hpb]at hb;simp (disch:=omega) only[↓GO,↓DRW,GA,GX,ren,zk,za,refs,z8,cst,zo,isC,bin,una,z7,zd,blt,asArg,zg,zc,zf,z6,zr,unN,ze,zm,zb,GS,simprocAttr,c,hget,zi,hb];rw[hpb];rfl
theorem WM (f:Nat)(p:UInt8→Bool)(hp:∀ b:UInt8,zy (EV prog pol) f [.t (.int .u8 (b.toNat:Int))]=some (.t (.bool (p b))))(s:Str)(hl:s.length≤9223372036854775807) :
 zy (EV prog pol) 172 [.t (.str s),.t (.fn f [])]=some (.t (.bool (s.all p))):=by
 have IH:=PI f p hp s hl s [] rfl;simp only[List.length_nil,Int.natCast_zero]at IH;apply zw;refine zx rfl func172 rfl (by kernel_rfl) ?_;unfold Tryz.f172
 cases hb:s.all p with
 | true=>rw[hb]at IH;simp only[cond_true]at IH;simp only[↓GO,↓DRW,GA,GX,ren,zk,za,refs,z8,cst,zo,isC,bin,una,z7,zd,blt,asArg,zg,zc,zf,z6,zr,unN,ze,zm,zb,GS,simprocAttr,IH]
 | false=>rw[hb]at IH;simp only[cond_false]at IH;simp only[↓GO,↓DRW,GA,GX,ren,zk,za,refs,z8,cst,zo,isC,bin,una,z7,zd,blt,asArg,zg,zc,zf,z6,zr,unN,ze,zm,zb,GS,simprocAttr,IH]
end Go.Proofs.YtefkoljdebekdaaGreatDoor
/- Texts cut at a byte; names; plain texts. Plain. Conditions: none. -/
namespace Go.Proofs.YtefkoljdebekdaaGreatDoor
open Go.Proofs.Tryz
theorem jg (b:UInt8)(s:Str):Lib.index (b::s) [b]=0:=by rw[Lib.index];simp[List.isPrefixOf]
theorem lz (x b:UInt8)(s:Str)(h:x≠b):Lib.index (x::s) [b]=if Lib.index s [b]==-1 then -1 else Lib.index s [b]+1:=by
 have hp:([b]:List UInt8).isPrefixOf (x::s)=false:=by simp[List.isPrefixOf,Ne.symm h]
 rw[Lib.index,hp];simp
theorem xz (b:UInt8):∀ s:Str,y5 b s≠[]
 | []=>by simp[y5]
 | x::s=>by
  unfold y5
  split
  · simp
  · split<;>simp
theorem vj (b:UInt8)(s:Str):y5 b (b::s)=[]::y5 b s:=by rw[y5,if_pos rfl]
theorem yX (b x:UInt8)(s p:Str)(r:List Str)(h:x≠b)(e:y5 b s=p::r):y5 b (x::s)=(x::p)::r:=by
 rw[y5,if_neg h,e]
theorem gr (b:UInt8):∀ s:Str,Lib.split s [b]=y5 b s
 | []=>by
  unfold Lib.split;rw[Lib.count_miss (by simp[Lib.index])];rfl
 | x::s=>by
  have ih:=gr b s;unfold Lib.split at ih ⊢
  by_cases h:x=b
  · subst h;rw[Lib.count_cons_eq,Nat.add_comm,Lib.splitK,jg,vj];simpa using ih
  · rw[Lib.count_cons_ne x b s h]
    by_cases hm:Lib.index s [b] = -1
    · rw[Lib.count_miss hm]at ih ⊢;rw[Lib.splitK]at ih ⊢;exact (yX b x s s [] h ih.symm).symm
    · have hge:=Lib.index_ge s [b];obtain⟨j,hj⟩:∃ j:Nat,Lib.index s [b]=j:=⟨(Lib.index s [b]).toNat,by omega⟩;rw[Lib.count_hit (by simp) hj,Nat.add_comm]at ih ⊢;have hb:(((j:Nat):Int)==-1)=false:=by rw[beq_eq_false_iff_ne];omega
      have hb2:(((j:Nat):Int)+1==-1)=false:=by rw[beq_eq_false_iff_ne];omega
      rw[Lib.splitK,hj,hb]at ih;rw[Lib.splitK,lz x b s h,hj,hb];simp only[Bool.false_eq_true,if_false,hb2,Int.toNat_natCast,Nat.add_zero,List.length_cons,List.length_nil,Nat.zero_add]at ih ⊢;rw[show ((j:Int)+1).toNat=j+1 by omega];rw[List.take_succ_cons,List.drop_succ_cons];exact (yX b x s _ _ h ih.symm).symm
def yh (b:UInt8):Str→Str×Str×Bool
 | []=>([],[],false)
 | x::s=>if x=b then ([],s,true) else (x::(yh b s).1,(yh b s).2.1,(yh b s).2.2)
theorem aX (b:UInt8):∀ s:Str,Lib.cut s [b]=yh b s
 | []=>by simp[Lib.cut,yh,Lib.index]
 | x::s=>by
  have ih:=aX b s
  by_cases h:x=b
  · subst h;unfold Lib.cut;rw[jg,yh,if_pos rfl];simp
  · rw[yh,if_neg h,← ih];unfold Lib.cut;rw[lz x b s h];have hge:=Lib.index_ge s [b]
    by_cases hm:Lib.index s [b] = -1
    · rw[hm];simp
    · obtain⟨j,hj⟩:∃ j:Nat,Lib.index s [b]=j:=⟨(Lib.index s [b]).toNat,by omega⟩;have hb:(((j:Nat):Int)==-1)=false:=by rw[beq_eq_false_iff_ne];omega
      rw[hj,hb];simp only[Bool.false_eq_true,if_false];rw[if_pos (by omega),if_pos (by omega),show ((j:Int)+1).toNat=j+1 by omega];simp only[List.take_succ_cons,Int.toNat_natCast];rw[show j+1+[b].length=(j+[b].length)+1 by simp,List.drop_succ_cons]
theorem qP (b:UInt8):∀ s:Str,s=(yh b s).1++cond (yh b s).2.2 (b::(yh b s).2.1) []
 | []=>rfl
 | x::s=>by
  rw[yh]
  split
  · rename_i h;rw[h];rfl
  · have:=qP b s
    show x::s=(x::(yh b s).1)++_
    rw[List.cons_append,← this]
theorem iq (b:UInt8):∀ s:Str,b∉(yh b s).1
 | []=>by simp[yh]
 | x::s=>by
  rw[yh]
  split
  · simp
  · rename_i h;have:=iq b s;simp only[List.mem_cons,not_or];exact⟨Ne.symm h,this⟩
theorem jr (b:UInt8):∀ s:Str,(yh b s).2.2=false→(yh b s).2.1=[]
 | [],_=>rfl
 | x::s,h=>by
  rw[yh]at h ⊢
  split at h
  · simp at h
  · rename_i hx;rw[if_neg hx];exact jr b s h
theorem ir (b:UInt8)(t:Str):∀ s:Str,b∉s→yh b (s++b::t)=(s,t,true)
 | [],_=>by simp[yh]
 | x::s,h=>by
  simp only[List.mem_cons,not_or]at h;rw[List.cons_append,yh,if_neg (Ne.symm h.1),ir b t s h.2]
theorem W3 (b:UInt8):∀ s:Str,b∉s→yh b s=(s,[],false)
 | [],_=>by simp[yh]
 | x::s,h=>by
  simp only[List.mem_cons,not_or]at h;rw[yh,if_neg (Ne.symm h.1),W3 b s h.2]
theorem sx (b:UInt8)(t:Str):∀ s:Str,y5 b (s++b::t)=y5 b s++y5 b t
 | []=>by rw[List.nil_append,vj];rfl
 | x :: s => by
  have ih:=sx b t s;rw[List.cons_append]
  by_cases h:x=b
  · subst h;rw[vj,vj,ih];rfl
  · cases hc:y5 b s with
    | nil=>exact absurd hc (xz b s)
    | cons p r =>
     rw[hc]at ih;rw[yX b x s p r h hc,yX b x _ p (r++y5 b t) h ih];rfl
theorem kA (b:UInt8):∀ s:Str,b∉s→y5 b s=[s]
 | [],_=>rfl
 | x::s,h=>by
  simp only[List.mem_cons,not_or]at h;exact yX b x s s [] (Ne.symm h.1) (kA b s h.2)
def qY:Str:=[110,111,100,101,95,109,111,100,117,108,101,115]
def tr (b:UInt8):Bool:=B2 (nb b) 97 122||B2 (nb b) 48 57||nb b==46||nb b==95||nb b==45
def lU (s:Str):Bool:=([64]:Str).isPrefixOf s
def xt (s:Str):Str:=match s with
 | []=>[]
 | x::r=>if x=64 then r else x::r
def tg (sc:Bool):List Str→Bool
 | []=>true
 | p::r=>(!((p==[])||((p==qY)&&!sc)||!(p.all tr)))&&tg false r
def uy (s:Str):Bool:=tg (lU s) (y5 47 (xt s))&&decide ((s.length:Int)≤60)
def iQ:List Str→Bool
 | []=>true
 | p::r=>(!(p==qY)&&(p.all tr&&!(p==[])))&&iQ r
def oq:List Str→Bool
 | []=>true
 | p::r=>(!(p==qY)&&((xt p).all tr&&!(xt p==[])))&&iQ r
theorem qu:∀ r:List Str,iQ r=tg false r
 | []=>rfl
 | p::r=>by
  rw[iQ,tg,qu r]
  cases (p==[])<;>cases (p==qY)<;>cases (p.all tr)<;>rfl
theorem Vi (s:Str):(oq (y5 47 s)&&decide ((s.length:Int)≤60))=uy s:=by
 unfold uy
 congr 1
 cases s with
 | nil=>rfl
 | cons x t =>
  cases hc:y5 47 t with
  | nil=>exact absurd hc (xz 47 t)
  | cons p r =>
   by_cases h64:x=64
   · subst h64;rw[yX 47 64 t p r (by decide) hc];have h1:lU (64::t)=true:=by simp[lU,List.isPrefixOf]
     have h2:xt (64::t)=t:=by simp[xt]
     have h3:xt (64::p)=p:=by simp[xt]
     have h4:(((64:UInt8)::p)==qY)=false:=by simp[qY]
     rw[h1,h2,hc,oq,tg,h3,h4,qu]
     cases (p==[])<;>cases (p==qY)<;>cases (p.all tr)<;>rfl
   · have h1:lU (x::t)=false:=by simp[lU,List.isPrefixOf];exact fun h=>h64 h.symm
     have h2:xt (x::t)=x::t:=by simp[xt,h64]
     rw[h1,h2]
     by_cases h47:x=47
     · subst h47;rw[vj,oq,tg,qu];rfl
     · rw[yX 47 x t p r h47 hc,oq,tg,qu];have h3:xt (x::p)=x::p:=by simp[xt,h64]
       rw[h3]
       cases ((x::p)==[])<;>cases ((x::p)==qY)<;>cases ((x::p).all tr)<;>rfl
def oo (b:UInt8):Bool:=B2 (nb b) 33 126&&(!(nb b==34)&&(!(nb b==39)&&(!(nb b==44)&&!(nb b==92))))
def vK (s:Str):Bool:=s.all oo&&decide ((s.length:Int)≤100)
def isD (c:UInt8):Bool:=decide (48≤c.toNat)&&decide (c.toNat≤57)
def o6 (a:Nat)(c:UInt8):Nat:=a*10+(c.toNat - 48)
def tX (acc:Nat)(l:List UInt8):Nat:=l.foldl o6 acc
theorem jz (acc:Nat):tX acc []=acc:=rfl
theorem nV (acc:Nat)(c:UInt8)(l:List UInt8):tX acc (c::l)=tX (o6 acc c) l:=by
 unfold tX;rw[List.foldl_cons]
theorem gn (c:UInt8)(l:List UInt8)(acc:Nat):tX acc (l++[c])=o6 (tX acc l) c:=by
 unfold tX;rw[List.foldl_append,List.foldl_cons,List.foldl_nil]
theorem nC (c:UInt8):isD c=true↔48≤c.toNat∧c.toNat≤57:=by simp[isD]
theorem YC (acc:Nat)(c:UInt8)(h:isD c=true):o6 acc c+1≤(acc+1)*10:=by
 have:=(nC c).1 h;unfold o6;omega
theorem kX (n m:Nat):m*10 ^ (n+1)=m*10*10 ^ n:=by rw[Nat.pow_succ,Nat.mul_comm (10 ^ n) 10,Nat.mul_assoc]
theorem kd:∀ (l:List UInt8) (acc:Nat),l.all isD=true→tX acc l<(acc+1)*10 ^ l.length
 | [],acc,_=>by rw[jz];simp
 | c::l,acc,h=>by
  rw[List.all_cons,Bool.and_eq_true]at h;have ih:=kd l (o6 acc c) h.2;rw[nV,List.length_cons,kX];exact Nat.lt_of_lt_of_le ih (Nat.mul_le_mul_right _ (YC acc c h.1))
theorem fM {d:Nat}(h:d<10):(UInt8.ofNat (48+d)).toNat=48+d:=by
 simp[UInt8.toNat_ofNat'];omega
theorem tG (u:Nat):(Lib.decDigits u).all isD=true∧tX 0 (Lib.decDigits u)=u∧Lib.decDigits u≠[]:=by
 induction u using Nat.strongRecOn with
 | _ u ih =>
  rw[Lib.decDigits]
  split
  · rename_i h;have:=fM h;refine⟨?_,?_,by simp⟩
    · rw[List.all_cons,List.all_nil,Bool.and_true,nC,this];omega
    · rw[nV,jz,o6,this];omega
  · rename_i h;obtain⟨h1,h2,h3⟩:=ih (u / 10) (by omega);have:=fM (d:=u % 10) (by omega);refine⟨?_,?_,by simp⟩
    · rw[List.all_append,h1,List.all_cons,List.all_nil,Bool.and_true,Bool.true_and,nC,this];omega
    · rw[gn,h2,o6,this];omega
theorem oB:∀ (l:List UInt8) (acc:Nat),l.all isD=true→(acc+1)*10 ^ l.length≤1000000000000000000→Lib.parseUint10 acc l=.ok (tX acc l)
 | [],acc,_,_=>rfl
 | c::l,acc,h,hb=>by
  rw[List.all_cons,Bool.and_eq_true]at h;have hp:0<10 ^ l.length:=Nat.pos_of_ne_zero (by intro h;simp at h);rw[List.length_cons,kX]at hb;have h10:(acc+1)*10≤1000000000000000000:=Nat.le_trans (Nat.le_mul_of_pos_right _ hp) hb;have hc:=(nC c).1 h.1;have ih:=oB l (o6 acc c) h.2 (Nat.le_trans (Nat.mul_le_mul_right _ (YC acc c h.1)) hb);rw[Lib.parseUint10,if_pos hc,if_neg (by omega),if_neg (by omega),nV,← ih];rfl
theorem lq:∀ (k u:Nat),1≤k→u<10 ^ k→Lib.nDigits u≤k
 | 0,u,h,_=>by omega
 | k + 1, u, _, h => by
  rw[Lib.nDigits]
  split
  · omega
  · have h10:u / 10<10 ^ k:=by rw[Nat.pow_succ]at h;omega
    have hk:1≤k:=by
     rcases Nat.eq_zero_or_pos k with rfl|h
     · simp at h10;omega
     · exact h
    have:=lq k (u / 10) hk h10;omega
theorem rH {u:Nat}(h:u≤999999999):(Lib.decDigits u).length≤9:=by
 rw[Lib.decDigits_length];exact lq 9 u (by omega) (by omega)
theorem cL {u:Nat}(h:u≤999999999):Lib.atoiAll (Lib.decDigits u)=.ok (u:Int):=by
 obtain⟨h1,h2,h3⟩:=tG u;have hl:=rH h;generalize Lib.decDigits u=l at *
 cases l with
 | nil=>exact absurd rfl h3
 | cons c r =>
  have hc:isD c=true:=by simp only[List.all_cons,Bool.and_eq_true]at h1;exact h1.1
  simp only[isD,Bool.and_eq_true,decide_eq_true_eq]at hc;have hp:Lib.parseMag (c::r)=.ok u:=by
   unfold Lib.parseMag;have:(10:Nat) ^ (c::r).length≤10 ^ 9:=Nat.pow_le_pow_right (by omega) hl;have e9:(10:Nat) ^ 9=1000000000:=by decide
   rw[if_neg (by simp),oB _ 0 h1 (by omega),h2]
  unfold Lib.atoiAll;simp only;rw[if_neg (by omega),hp];simp only;rw[if_neg (by omega),if_neg (by omega),if_neg (by omega)]
def zz (s:List UInt8):Int :=
 match Lib.atoiAll s with
 | .ok v=>cond ((decide (0≤v)&&decide (v≤999999999))&&(Lib.itoa v==s)) v (-1)
 | _=>-1
def qK (s:List UInt8):Int:=cond ((s.all isD&&decide (s.length≤9))&&(!(s==[])&&(Lib.itoa (tX 0 s:Nat)==s))) (tX 0 s:Nat) (-1)
theorem uH {u:Nat}(h:u≤999999999):zz (Lib.decDigits u)=u∧qK (Lib.decDigits u)=u:=by
 obtain⟨h1,h2,h3⟩:=tG u;have hl:=rH h;refine⟨?_,?_⟩
 · unfold zz;rw[cL h];simp only;rw[Lib.itoa_nonneg];have e1:decide ((0:Int)≤(u:Int))=true:=by simp
   have e2:decide ((u:Int)≤999999999)=true:=by simp;omega
   rw[e1,e2];simp
 · unfold qK;rw[h1,h2,Lib.itoa_nonneg];have e1:decide ((Lib.decDigits u).length≤9)=true:=by simpa using hl
   have e2:(Lib.decDigits u==[])=false:=by simpa using h3
   rw[e1,e2];simp
theorem Vb {s:List UInt8}(h:∀ u,u≤999999999→s≠Lib.decDigits u):zz s = -1∧qK s = -1:=by
 refine⟨?_,?_⟩
 · unfold zz
   split
   · rename_i v hv
     cases hc:((decide (0≤v)&&decide (v≤999999999))&&(Lib.itoa v==s)) with
     | false=>rfl
     | true =>
      simp only[Bool.and_eq_true,decide_eq_true_eq]at hc;obtain⟨⟨c1,c2⟩,c3⟩:=hc;obtain⟨u,rfl⟩:∃ u:Nat,v=u:=⟨v.toNat,by omega⟩;rw[Lib.itoa_nonneg]at c3;exact absurd (eq_of_beq c3).symm (h u (by omega))
   · rfl
 · unfold qK
   cases hc:((s.all isD&&decide (s.length≤9))&&(!(s==[])&&(Lib.itoa (tX 0 s:Nat)==s))) with
   | false=>rfl
   | true =>
    simp only[Bool.and_eq_true,decide_eq_true_eq]at hc;obtain⟨⟨c1,c2⟩,c3,c4⟩:=hc;rw[Lib.itoa_nonneg]at c4;have hv:=kd s 0 c1;have:(10:Nat) ^ s.length≤10 ^ 9:=Nat.pow_le_pow_right (by omega) c2;have e9:(10:Nat) ^ 9=1000000000:=by decide
    exact absurd (eq_of_beq c4).symm (h _ (by omega))
theorem WY (s:List UInt8):qK s=zz s:=by
 by_cases h:∃ u,u≤999999999∧s=Lib.decDigits u
 · obtain⟨u,hu,rfl⟩:=h;obtain⟨h1,h2⟩:=uH hu;rw[h1,h2]
 · obtain⟨h1,h2⟩:=Vb (s:=s) fun u hu he=>h ⟨u,hu,he⟩
   rw[h1,h2]
end Go.Proofs.YtefkoljdebekdaaGreatDoor

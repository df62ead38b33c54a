/- Joined: XF K28 V15 K29 K30 V22 K50 S1 W16 W17. Conditions: those of each lemma. -/
import Derived.Shelf.Strings.Builder1
import Derived.Shelf.Strings.Builder2
import Derived.Shelf.Strings.OnBuilder
import Derived.Shelf.Strings.Trim
import Derived.Shelf.Small.Utf8
import Derived.Shelf.Small.Bits
import Derived.Shelf.Small.Strs
import Derived.Shelf.Small.Wraps
import Derived.Shelf.Strings.BuilderF
import Derived.Shelf.Strings.BuilderK
import Derived.Shelf.Utf8.RuneCount
import Derived.Shelf.Strings.Builder2Cap
import Derived.Shelf.Strconv.Atoi
import Derived.Shelf.Strconv.Itoa0
import Derived.Shelf.Strconv.Itoa1
import Derived.Shelf.LaysM
import Derived.Shelf.Strconv.Itoa2
import Derived.Shelf.Strconv.Itoa3
import Derived.Shelf.Strconv.AtoiErrFast
import Derived.Shelf.Strconv.ParseIntEmpty
import Derived.Shelf.Strconv.AtoiFail
import Derived.Shelf.Strconv.Clone
import Derived.Shelf.Strconv.SyntaxError
import Derived.Shelf.LaysC
import Derived.Shelf.Strconv.ToError
import Derived.Shelf.Strconv.AtoiErr
import Derived.Shelf.Strconv.ErrVar
import Derived.Shelf.Strconv.Lower
import Derived.Shelf.Strconv.ParseUint10
import Derived.Shelf.Strconv.ParseUint10Empty
import Derived.Shelf.Strconv.ParseUint10Any
import Derived.Shelf.Strconv.ParseInt10
import Derived.Shelf.Strconv.AtoiLong
import Derived.Shelf.Strconv.AtoiInnerAll
import Derived.Shelf.Strconv.RangeError
import Derived.Shelf.Strconv.ToErrorRange
import Derived.Shelf.Strconv.AtoiAll
import Derived.Shelf.Strconv.ErrVarAll
import Derived.Shelf.Strconv.ParseUintEmpty
import Derived.Shelf.Strconv.ParseUint10b64
import Derived.Shelf.Strconv.ParseUint10b32
import Derived.Shelf.Strconv.ParseUint10b16
import Derived.Shelf.Strconv.ParseUint10b8
import Derived.Shelf.Strconv.ParseUint10At
import Derived.Shelf.Strconv.ParseInt10At64
import Derived.Shelf.Strconv.ParseInt10At32
import Derived.Shelf.Strconv.ParseInt10At16
import Derived.Shelf.Strconv.ParseInt10At8
import Derived.Shelf.Strconv.ParseInt10All
import Derived.Shelf.Strings.Search1
import Derived.Shelf.Strings.Search2
import Derived.Shelf.Strings.Search3
import Derived.Shelf.Strings.Cut
import Derived.Shelf.Strings.Count
import Derived.Shelf.Strings.Shaped
import Derived.Shelf.Sort.Plain
import Derived.Shelf.Strings.Prefix
import Derived.Shelf.Strings.Split
import Derived.Shelf.Strings.SplitShaped
import Derived.Shelf.Unicode.Decode
import Derived.Shelf.Strings.Runes
import Derived.Shelf.Strings.RuneCount
import Derived.Shelf.Strings.AsciiSet
import Derived.Shelf.Strings.Explode
import Derived.Shelf.Unicode.DecodeSlow
import Derived.Shelf.Unicode.DecodeAny
import Derived.Shelf.Strings.BuilderCap
import Derived.Shelf.Slices.Turned
import Derived.Shelf.Slices.Equal
import Derived.Ground.Names2Prog
import Derived.Shelf.Slices.Clone
import Derived.Shelf.Slices.CompactS
import Derived.Shelf.Slices.Cells
import Derived.Shelf.Slices.In.SortNone
import Derived.Shelf.Slices.Empties2
import Derived.Ground.SlgnProg
import Derived.Shelf.SlicesE.Clone
import Derived.Ground.SlsfProg
import Derived.Shelf.SlSortCmp.Insertion
import Derived.Shelf.SlSortCmp.SiftDown1
import Derived.Shelf.SlSortCmp.HeapSort1
import Derived.Shelf.SlSortCmp.Insertion1
import Derived.Shelf.SlSortCmp.Median1
import Derived.Shelf.SlSortCmp.Pivot1
import Derived.Shelf.SlSortCmp.ReverseRange1
import Derived.Shelf.SlSortCmp.PartialInsertion1
import Derived.Shelf.SlSortCmp.PartitionEqual1
import Derived.Shelf.SlSortCmp.Partition1
import Derived.Shelf.SlSortCmp.Pdq1
import Derived.Shelf.SlSortCmp.Whole1
import Derived.Shelf.SlSortCmp.NoneTotal
import Derived.Test.YtefkoljdebekdaaGreatDoorProg
import Derived.Test.YtefkoljdebekdaaGreatDoorlO
import Derived.Test.YtefkoljdebekdaaGreatDoorlL
import Derived.Test.YtefkoljdebekdaaGreatDoorlI
import Derived.Lib.SortBridge
import Derived.Test.YtefkoljdebekdaaGreatDoorlN
import Derived.Test.YtefkoljdebekdaaGreatDoorlK
import Derived.Test.YtefkoljdebekdaaGreatDoorlM
import Derived.Test.YtefkoljdebekdaaGreatDoorRows
import Derived.ProofKit
import Derived.ReadAgain
import Derived.Test.YtefkoljdebekdaaGreatDoorlJ
set_option linter.unusedVariables false
set_option linter.unusedSimpArgs false
set_option maxRecDepth 100000
set_option maxHeartbeats 40000000
namespace Go.Proofs
open Go.Proofs.Tryz
open Go.Shelf
def Tryz.oy:Go.Shelf.Ren:=⟨fun|6=>166|15=>207|14=>208|28=>252|29=>253|20=>254|21=>255|22=>256|23=>257|24=>258|25=>259|26=>260|27=>261|46=>293|47=>288|48=>289|49=>294|50=>295|57=>307|n=>n,fun|22=>24|24=>9|25=>99|3=>3|39=>175|0=>0|53=>210|55=>212|4=>4|46=>203|45=>202|50=>207|5=>5|9=>9|66=>232|70=>236|76=>250|77=>251|n=>n,fun|n=>n⟩
theorem Tryz.ga:Go.Proofs.SlLaysF.n6 prog Tryz.oy:={
 mixed:=by kernel_rfl
 f6:=⟨Tryz.f166.name,by decide,Tryz.func166.trans (congrArg some (by kernel_rfl))⟩
 f14:=⟨Tryz.f208.name,by decide,Tryz.func208.trans (congrArg some (by kernel_rfl))⟩
 f15:=Tryz.func207.trans (congrArg some (by kernel_rfl))
 f20:=⟨Tryz.f254.name,by decide,Tryz.func254.trans (congrArg some (by kernel_rfl))⟩
 f21:=⟨Tryz.f255.name,by decide,Tryz.func255.trans (congrArg some (by kernel_rfl))⟩
 f22:=⟨Tryz.f256.name,by decide,Tryz.func256.trans (congrArg some (by kernel_rfl))⟩
 f23:=⟨Tryz.f257.name,by decide,Tryz.func257.trans (congrArg some (by kernel_rfl))⟩
 f24:=⟨Tryz.f258.name,by decide,Tryz.func258.trans (congrArg some (by kernel_rfl))⟩
 f25:=⟨Tryz.f259.name,by decide,Tryz.func259.trans (congrArg some (by kernel_rfl))⟩
 f26:=⟨Tryz.f260.name,by decide,Tryz.func260.trans (congrArg some (by kernel_rfl))⟩
 f27:=⟨Tryz.f261.name,by decide,Tryz.func261.trans (congrArg some (by kernel_rfl))⟩
 f28:=Tryz.func252.trans (congrArg some (by kernel_rfl))
 f29:=Tryz.func253.trans (congrArg some (by kernel_rfl))
 f46:=⟨Tryz.f293.name,by decide,Tryz.func293.trans (congrArg some (by kernel_rfl))⟩
 f47:=Tryz.func288.trans (congrArg some (by kernel_rfl))
 f48:=Tryz.func289.trans (congrArg some (by kernel_rfl))
 f49:=⟨Tryz.f294.name,by decide,Tryz.func294.trans (congrArg some (by kernel_rfl))⟩
 f50:=⟨Tryz.f295.name,by decide,Tryz.func295.trans (congrArg some (by kernel_rfl))⟩
 f57:=⟨Tryz.f307.name,by decide,Tryz.func307.trans (congrArg some (by kernel_rfl))⟩
 t0:=Tryz.underlying0
 a0:=Tryz.isAgg0
 z0:=Tryz.sizeOf0
 v0:=Tryz.zeroValue0
 t3:=Tryz.underlying3
 a3:=Tryz.isAgg3
 z3:=Tryz.sizeOf3
 v3:=Tryz.zeroValue3
 t4:=Tryz.underlying4
 a4:=Tryz.isAgg4
 z4:=Tryz.sizeOf4
 v4:=Tryz.zeroValue4
 t5:=Tryz.underlying5
 a5:=Tryz.isAgg5
 z5:=Tryz.sizeOf5
 v5:=Tryz.zeroValue5
 t9:=Tryz.underlying9
 a9:=Tryz.isAgg9
 z9:=Tryz.sizeOf9
 v9:=Tryz.zeroValue9
 t22:=Tryz.underlying24
 a22:=Tryz.isAgg24
 z22:=Tryz.sizeOf24
 v22:=Tryz.zeroValue24
 a24:=Tryz.isAgg9
 z24:=Tryz.sizeOf9
 t25:=Tryz.underlying99
 a25:=Tryz.isAgg99
 z25:=Tryz.sizeOf99
 v25:=Tryz.zeroValue99
 t39:=Tryz.underlying175
 a39:=Tryz.isAgg175
 z39:=Tryz.sizeOf175
 v39:=Tryz.zeroValue175
 t45:=Tryz.underlying202
 a45:=Tryz.isAgg202
 z45:=Tryz.sizeOf202
 v45:=Tryz.zeroValue202
 t46:=Tryz.underlying203
 a46:=Tryz.isAgg203
 z46:=Tryz.sizeOf203
 v46:=Tryz.zeroValue203
 t50:=Tryz.underlying207
 a50:=Tryz.isAgg207
 z50:=Tryz.sizeOf207
 v50:=Tryz.zeroValue207
 t53:=Tryz.underlying210
 a53:=Tryz.isAgg210
 z53:=Tryz.sizeOf210
 v53:=Tryz.zeroValue210
 t55:=Tryz.underlying212
 a55:=Tryz.isAgg212
 z55:=Tryz.sizeOf212
 v55:=Tryz.zeroValue212
 t66:=Tryz.underlying232
 a66:=Tryz.isAgg232
 z66:=Tryz.sizeOf232
 v66:=Tryz.zeroValue232
 t70:=Tryz.underlying236
 a70:=Tryz.isAgg236
 z70:=Tryz.sizeOf236
 v70:=Tryz.zeroValue236
 t76:=Tryz.underlying250
 a76:=Tryz.isAgg250
 z76:=Tryz.sizeOf250
 v76:=Tryz.zeroValue250
 t77:=Tryz.underlying251
 a77:=Tryz.isAgg251
 z77:=Tryz.sizeOf251
 v77:=Tryz.zeroValue251 }
def Tryz.uP:Go.Shelf.Ren:=⟨fun|6=>166|15=>207|14=>208|28=>252|29=>253|20=>254|21=>255|22=>256|23=>257|24=>258|25=>259|26=>260|27=>261|46=>293|47=>288|48=>289|49=>294|50=>295|57=>307|n=>n,fun|22=>24|24=>9|25=>99|3=>3|39=>175|0=>0|53=>210|55=>212|4=>4|46=>203|45=>202|50=>207|5=>5|9=>9|66=>232|70=>236|76=>250|77=>251|n=>n,fun|n=>n⟩
theorem Tryz.kE:Go.Proofs.SlLaysF0.n6 prog Tryz.uP:={
 mixed:=by kernel_rfl
 f6:=⟨Tryz.f166.name,by decide,Tryz.func166.trans (congrArg some (by kernel_rfl))⟩
 f14:=⟨Tryz.f208.name,by decide,Tryz.func208.trans (congrArg some (by kernel_rfl))⟩
 f15:=Tryz.func207.trans (congrArg some (by kernel_rfl))
 f20:=⟨Tryz.f254.name,by decide,Tryz.func254.trans (congrArg some (by kernel_rfl))⟩
 f21:=⟨Tryz.f255.name,by decide,Tryz.func255.trans (congrArg some (by kernel_rfl))⟩
 f22:=⟨Tryz.f256.name,by decide,Tryz.func256.trans (congrArg some (by kernel_rfl))⟩
 f23:=⟨Tryz.f257.name,by decide,Tryz.func257.trans (congrArg some (by kernel_rfl))⟩
 f24:=⟨Tryz.f258.name,by decide,Tryz.func258.trans (congrArg some (by kernel_rfl))⟩
 f25:=⟨Tryz.f259.name,by decide,Tryz.func259.trans (congrArg some (by kernel_rfl))⟩
 f26:=⟨Tryz.f260.name,by decide,Tryz.func260.trans (congrArg some (by kernel_rfl))⟩
 f27:=⟨Tryz.f261.name,by decide,Tryz.func261.trans (congrArg some (by kernel_rfl))⟩
 f28:=Tryz.func252.trans (congrArg some (by kernel_rfl))
 f29:=Tryz.func253.trans (congrArg some (by kernel_rfl))
 f46:=⟨Tryz.f293.name,by decide,Tryz.func293.trans (congrArg some (by kernel_rfl))⟩
 f47:=Tryz.func288.trans (congrArg some (by kernel_rfl))
 f48:=Tryz.func289.trans (congrArg some (by kernel_rfl))
 f49:=⟨Tryz.f294.name,by decide,Tryz.func294.trans (congrArg some (by kernel_rfl))⟩
 f50:=⟨Tryz.f295.name,by decide,Tryz.func295.trans (congrArg some (by kernel_rfl))⟩
 f57:=⟨Tryz.f307.name,by decide,Tryz.func307.trans (congrArg some (by kernel_rfl))⟩
 t0:=Tryz.underlying0
 a0:=Tryz.isAgg0
 z0:=Tryz.sizeOf0
 v0:=Tryz.zeroValue0
 t3:=Tryz.underlying3
 a3:=Tryz.isAgg3
 z3:=Tryz.sizeOf3
 v3:=Tryz.zeroValue3
 t4:=Tryz.underlying4
 a4:=Tryz.isAgg4
 z4:=Tryz.sizeOf4
 v4:=Tryz.zeroValue4
 t5:=Tryz.underlying5
 a5:=Tryz.isAgg5
 z5:=Tryz.sizeOf5
 v5:=Tryz.zeroValue5
 t9:=Tryz.underlying9
 a9:=Tryz.isAgg9
 z9:=Tryz.sizeOf9
 v9:=Tryz.zeroValue9
 t22:=Tryz.underlying24
 a22:=Tryz.isAgg24
 z22:=Tryz.sizeOf24
 v22:=Tryz.zeroValue24
 t25:=Tryz.underlying99
 a25:=Tryz.isAgg99
 z25:=Tryz.sizeOf99
 v25:=Tryz.zeroValue99
 t39:=Tryz.underlying175
 a39:=Tryz.isAgg175
 z39:=Tryz.sizeOf175
 v39:=Tryz.zeroValue175
 t45:=Tryz.underlying202
 a45:=Tryz.isAgg202
 z45:=Tryz.sizeOf202
 v45:=Tryz.zeroValue202
 t46:=Tryz.underlying203
 a46:=Tryz.isAgg203
 z46:=Tryz.sizeOf203
 v46:=Tryz.zeroValue203
 t50:=Tryz.underlying207
 a50:=Tryz.isAgg207
 z50:=Tryz.sizeOf207
 v50:=Tryz.zeroValue207
 t53:=Tryz.underlying210
 a53:=Tryz.isAgg210
 z53:=Tryz.sizeOf210
 v53:=Tryz.zeroValue210
 t55:=Tryz.underlying212
 a55:=Tryz.isAgg212
 z55:=Tryz.sizeOf212
 v55:=Tryz.zeroValue212
 t66:=Tryz.underlying232
 a66:=Tryz.isAgg232
 z66:=Tryz.sizeOf232
 v66:=Tryz.zeroValue232
 t70:=Tryz.underlying236
 a70:=Tryz.isAgg236
 z70:=Tryz.sizeOf236
 v70:=Tryz.zeroValue236
 t76:=Tryz.underlying250
 a76:=Tryz.isAgg250
 z76:=Tryz.sizeOf250
 v76:=Tryz.zeroValue250
 t77:=Tryz.underlying251
 a77:=Tryz.isAgg251
 z77:=Tryz.sizeOf251
 v77:=Tryz.zeroValue251 }
end Go.Proofs
/- slices.SortFunc at texts of versions, by the kit's own contract: on rows; what is shown before stays. Conditions: those of each lemma. -/
namespace Go.Proofs.YtefkoljdebekdaaGreatDoor
open Go.Proofs.Tryz
open E
def vok (s:Str):Bool:=isV s&&decide (s.length≤1048700)
abbrev VT:={ s:Str // vok s=true }
instance:Inhabited VT:=⟨⟨[48,46,48,46,48],by decide +kernel⟩⟩
def mK (x:VT):Value:=encStr x.1
def cfT (x y:VT):Int:=wg x.1 y.1
theorem VT.v (x:VT):isV x.1=true:=by
 have:=x.2;unfold vok at this;simp only[Bool.and_eq_true]at this;exact this.1
theorem VT.l (x:VT):x.1.length≤1048700:=by
 have:=x.2;unfold vok at this;simp only[Bool.and_eq_true,decide_eq_true_eq]at this;exact this.2
theorem ltT (x y:VT):ltOf cfT x y=decide (wg x.1 y.1<0):=rfl
theorem P2:Go.Sort.SWO (ltOf cfT) where
 irrefl x:=by
  rw[ltT];have:=yA.refl x.v;apply decide_eq_false;omega
 trans x y z h1 h2:=by
  rw[ltT]at *;exact decide_eq_true (yA.trans _ _ _ x.v y.v z.v (of_decide_eq_true h1) (of_decide_eq_true h2))
 ntrans x y z h1 h2:=by
  rw[ltT]at *;have k1:=of_decide_eq_false h1;have k2:=of_decide_eq_false h2;apply decide_eq_false;intro h3
  by_cases e:wg x.1 y.1=0
  · have:=yA.sep _ _ x.v y.v e;rw[this]at h3;exact k2 h3
  · have h4:=yA.anti _ _ x.v y.v;exact k2 (yA.trans _ _ _ y.v x.v z.v (by omega) h3)
theorem totT (x y:VT)(h1:ltOf cfT x y=false)(h2:ltOf cfT y x=false):x=y:=by
 rw[ltT]at *;have k1:=of_decide_eq_false h1;have k2:=of_decide_eq_false h2;have h4:=yA.anti _ _ x.v y.v;exact Subtype.ext (yA.sep _ _ x.v y.v (by omega))
def vts (ks:List Str)(h:ks.all vok=true):List VT:=ks.attach.map fun x=>⟨x.1,List.all_eq_true.1 h x.1 x.2⟩
theorem eL (ks:List Str)(h:ks.all vok=true):(vts ks h).map (·.1)=ks:=by
 unfold vts;rw[List.map_map];exact List.attach_map_subtype_val ks
theorem kc (ks:List Str)(h:ks.all vok=true):(vts ks h).length=ks.length:=by
 have:=congrArg List.length (eL ks h);simpa using this
def vd (ks:List Str)(h:ks.all vok=true):List Str:=((vts ks h).mergeSort fun x y=>!(ltOf cfT) y x).map (·.1)
theorem nY (ks:List Str)(h:ks.all vok=true):(vd ks h).length=ks.length:=by
 unfold vd;rw[List.length_map,List.length_mergeSort,kc]
theorem ZF (ks:List Str)(h:ks.all vok=true):(vd ks h).Perm ks:=by
 have h1:=(List.mergeSort_perm (vts ks h) fun x y=>!(ltOf cfT) y x).map (·.1);rw[eL]at h1;exact h1
theorem V0 (ks:List Str)(h:ks.all vok=true):(vd ks h).Pairwise fun x y=>wg x y≤0:=by
 unfold vd;rw[List.pairwise_map];have:=List.pairwise_mergeSort (le:=fun x y:VT=>!(ltOf cfT) y x) (fun a b c h1 h2=>by
  simp only[Bool.not_eq_true']at *;exact P2.ntrans _ _ _ h2 h1) (fun a b=>by
  cases h1:ltOf cfT b a with
  | false=>rfl
  | true =>
   have h2:ltOf cfT a b=false:=by
    cases h3:ltOf cfT a b with
    | false=>rfl
    | true=>have:=P2.trans _ _ _ h1 h3;rw[P2.irrefl]at this;cases this
   rw[h2];rfl) (vts ks h)
 refine this.imp fun {a b} hab=>?_
 simp only[Bool.not_eq_true',ltT]at hab;have k1:=of_decide_eq_false hab;have h4:=yA.anti _ _ b.v a.v;omega
def dG (args:List V)(h:Heap):Option (V×Heap) :=
 match args,h with
 | [.sl 0 0 n cap,.t (.fn g [])],[.ts 1 es]=>match strsOf es with
  | some ks=>if hk:ks.all vok=true then (if g=89∧n=ks.length∧ks.length≤1073741824 then some (.tup [],[.ts 1 (strs (vd ks hk))]) else none) else none
  | none=>none
 | _,_=>none
theorem Qh {W w':World}(h1:w'.os=W.os)(h2:w'.tape=W.tape)(h3:w'.output=W.output)(h4:W.heap.size≤w'.heap.size)(h5:∀ b,b<W.heap.size→w'.heap[b]? = W.heap[b]?)(h6:W.drawn≤w'.drawn) :
 w'=Go.Sort.grow (W.drewN (w'.drawn - W.drawn)) (w'.heap.extract W.heap.size w'.heap.size):=by
 have e:w'.heap=W.heap++w'.heap.extract W.heap.size w'.heap.size:=by
  apply Array.ext_getElem?;intro b
  by_cases hb:b<W.heap.size
  · rw[h5 b hb,Array.getElem?_append_left hb]
  · rw[Array.getElem?_append_right (by omega),Array.getElem?_extract]
    by_cases hb2:b<w'.heap.size
    · rw[if_pos (by omega),show W.heap.size+(b - W.heap.size)=b by omega]
    · rw[if_neg (by omega),Array.getElem?_eq_none (by omega)]
 obtain⟨hp,tp,dr,os,ou⟩:=w';obtain⟨hp0,tp0,dr0,os0,ou0⟩:=W;simp only at h1 h2 h3 h4 h6 e;subst h1;subst h2;subst h3;unfold Go.Sort.grow World.drewN;simp only;rw[← e,show dr0+(dr - dr0)=dr by omega]
theorem UU {W0:World}(hL:ot W0){F:Nat→Prop}{w:World}(hB:vQ W0 w F){blk:Nat}(hblk:W0.heap.size≤blk)(off size:Nat):CmpLays1 prog 89 #[] mK cfT blk off size w:=by
 intro m os dk hs x y;have hc:=WL x.1 y.1 x.l y.l;rw[nK (zZ x.v).2.2.1 (zZ y.v).2.2.1]at hc
 change zy (EV prog pol) 89 [.t (.str x.1),.t (.str y.1)]=some (.t (.int .i64 (cfT x y))) at hc
 have hv:EV prog pol (.call 89 [.t (.str x.1),.t (.str y.1)] [])=some (.call (.t (.int .i64 (cfT x y))) []):=by
  unfold zy at hc
  split at hc
  · rename_i v hv
    cases hc;exact hv
  · cases hc
 have hW:vQ W0 (_root_.Go.Proofs.sortWorld mK w blk off m dk os) (fun b=>b<W0.heap.size):=by
  refine⟨?_,fun b hb=>hb,fun b hb=>?_⟩
  · have:=hB.size;unfold _root_.Go.Proofs.sortWorld Go.Sort.grow;simp only[Array.size_append];have:(Go.Sort.putRow mK (Go.Sort.ahead w m) blk off dk).heap.size=w.heap.size:=by simp[Go.Sort.putRow,Go.Sort.mapBlock,Go.Sort.ahead]
    omega
  · have hs:=hB.size;have h0:(Go.Sort.putRow mK (Go.Sort.ahead w m) blk off dk).heap.size=w.heap.size:=by simp[Go.Sort.putRow,Go.Sort.mapBlock,Go.Sort.ahead]
    unfold _root_.Go.Proofs.sortWorld Go.Sort.grow;simp only;rw[Array.getElem?_append_left (by omega),← hB.heap b hb];unfold Go.Sort.putRow Go.Sort.mapBlock;simp only;rw[Array.getElem?_modify,if_neg (by omega)];rfl
 have h:=Wt (Sn W0 hL) iI hv (_root_.Go.Proofs.sortWorld mK w blk off m dk os) (fun b=>b<W0.heap.size) #[mK x,mK y] hW (fun b hb=>Nat.lt_of_lt_of_le hb hW.size) (.cons (.t _ _ (.str _ _ (by simp[mK]))) (.cons (.t _ _ (.str _ _ (by simp[mK]))) .nil));refine (Dr.cB h (by rintro e w' ⟨u,F',rfl,_⟩;exact⟨u,rfl⟩)).mono ?_
 rintro e w' ⟨⟨u,F',rfl,hu,_,hN⟩,hd⟩
 cases hu with
 | t _ _ ht =>
  cases ht;exact⟨rfl,_,_,Qh hN.os hN.tape hN.output hN.size (fun b hb=>hN.keep b hb (Nat.not_le.2 hb)) hd⟩
theorem Sj {w:World}{b o:Nat}{ks:List Str}(h:ks.all vok=true)(hH:Go.Sort.Holds encStr w b o ks.toArray):Go.Sort.Holds mK w b o (vts ks h).toArray:=by
 intro j hj;have hj':j<ks.length:=by rw[← kc ks h];simpa using hj
 have hx:=hH j (by simpa using hj');have hjv:j<(vts ks h).length:=by rw[kc];exact hj'
 have e:(vts ks h)[j].1=ks[j]:=by
  have h1:=congrArg (·[j]?) (eL ks h);simp only[List.getElem?_map,List.getElem?_eq_getElem hjv,List.getElem?_eq_getElem hj',Option.map_some]at h1;exact Option.some.inj h1
 have e1:((vts ks h).toArray)[j]! = (vts ks h)[j]:=by simp[hjv]
 have e2:(ks.toArray)[j]! = ks[j]:=by simp[hj']
 rw[e2]at hx;rw[e1];unfold mK;rw[e];exact hx
theorem U7 (W0:World)(hL:ot W0):ov prog W0 166 dG:=by
 intro args h v h' hv;unfold dG at hv
 split at hv
 · rename_i n cap g es
   split at hv
   · rename_i ks hks
     split at hv
     · rename_i hk
       split at hv
       · rename_i hn;obtain⟨rfl,hn,hlim⟩:=hn
         cases hv;obtain rfl:=tZ hks;refine⟨⟨Tryz.f166,func166,by kernel_rfl,by kernel_rfl⟩,fun Ow w F ρ us hB hS hO hu=>?_⟩;obtain⟨us⟩:=us
         change RVs w F ρ us _ at hu
         cases hu with
         | cons h1 h2 =>
         cases h2 with
         | cons h3 h4 =>
         cases h4
         cases h3 with
         | t _ _ h3 =>
         cases h3 with
         | fn _ _ vs hvs gg hgg hrr =>
         obtain rfl:vs = #[]:=Array.eq_empty_of_size_eq_zero (by simpa using hvs);subst hn;have htup':∀ {w':World},RV w' F ρ (.tuple #[]) (.tup []):=.tup _ _ (fun _=>undef) rfl (fun j hj=>by simp at hj) fun j x hj=>by simp at hj
         have none_case:ks=[]→∀ (a:Option Addr) (c:Nat),Calls prog 166 #[.slice a 0 c,.func (.func 89) #[] #[]] w fun e w'=>∃ u F' ρ',e=.returned u∧RV w' F' ρ' u (.tup [])∧St w' F' ρ' Ow [.ts 1 (strs (vd ks hk))]∧Nxt Ow w F zP w' F' zP∧∀ r l,r<1→ρ r=some l→ρ' r=some l:=fun hk0 a c=>by
          subst hk0;refine (AnyF.slices_SortFunc_none (P:=prog) (ρ:=Tryz.uP) Tryz.kE a c (.func (.func 89) #[] #[]) w).mono fun e w' hp=>?_
          obtain⟨rfl,rfl⟩:=hp;have e0:vd [] hk=[]:=List.eq_nil_of_length_eq_zero (nY [] hk);exact⟨_,F,ρ,rfl,htup',by rw[e0];exact hS,Nxt.refl _ _ _ _,fun _ _ _ hl=>hl⟩
         generalize hkl:ks.length=kl at h1
         cases h1 with
         | slP r cap a hρ hc=>exact none_case (List.eq_nil_of_length_eq_zero hkl) a 0
         | sl r off len cap L a c hρ ha hl hnn hc0 hc1 hz =>
          by_cases hk0:ks=[]
          · subst hk0;simp at hkl;subst hkl;exact none_case rfl a c
          · have hpos:0<ks.length:=by cases ks with|nil=>exact absurd rfl hk0|cons x r=>simp
            have hcne:c≠0:=by omega
            obtain rfl:=ha.resolve_right hcne;obtain⟨hH,hlt,q2,q3,hnF,hput⟩:=YO hS hk0 hρ;have hge:W0.heap.size≤L.b:=Nat.le_of_not_lt fun x=>hnF (hB.F _ x)
            have hsz:(vts ks hk).toArray.size=ks.length:=by simp[kc]
            have eg:∀ args w,(callFunc 89 args).run prog w=.ok (.enter 89 args) w:=enters_of func89 (by kernel_rfl) rfl;refine Calls.mono (by
             have:=Any.slices_SortFunc_total Tryz.ga mK (fun _=>rfl) cfT P2 89 #[] L.b L.o c (vts ks hk).toArray w eg (UU hL hB hge L.o _) (Sj hk hH) hlt (by omega) totT;rw[hsz,hkl]at this;rw[show L.o+0*L.sz=L.o by omega];exact this) fun e w' hp=>?_
            obtain⟨rfl,q,os,hw'⟩:=hp;unfold _root_.Go.Proofs.sortWorld at hw';rw[Lib.putRow_eq_setCells mK w L.b L.o (vts ks hk).toArray _ q (Sj hk hH) (by simp)]at hw';have em:((vts ks hk).toArray.toList.mergeSort fun x y=>!(ltOf cfT) y x).map mK=(vd ks hk).map encStr:=by
             unfold vd;rw[List.map_map];rfl
            rw[em]at hw';obtain⟨hS3,hN3⟩:=hput (vd ks hk) q os w' (nY ks hk) hw';exact⟨_,F,ρ,rfl,htup',hS3,hN3,fun _ _ _ hl=>hl⟩
       · cases hv
     · cases hv
   · cases hv
 · cases hv
def rl (f:Nat)(args:List V)(h:Heap):Option (V×Heap):=if f=166 then dG args h else sJ f args h
noncomputable def wX:Pol:={ pol with no:=Zu.no,extO:=rl }
theorem RG:∀ f fn c,wX.no f=false→prog.funcs[f]? = some fn→fn.body=some c→xu (nF prog wX f) fn.ntmps c=true:=YV
theorem Qo (W0:World)(hL:ot W0):lX prog W0 wX:=by
 refine⟨(Sn W0 hL).p,fun g=>?_⟩;intro args h v h' hv;have hv':rl g args h=some (v,h'):=hv;clear hv;unfold rl at hv'
 by_cases hg:g=166
 · subst hg;rw[if_pos rfl]at hv';exact U7 W0 hL args h v h' hv'
 · rw[if_neg hg]at hv';exact XT W0 hL g args h v h' hv'
theorem noS:sJ 166=fun _ _=>none:=by
 funext args h
 unfold sJ;simp (config:={ decide:=true }) only[if_true,if_false,reduceIte]
theorem mO {req:Req}{r:xV}(h:EV prog pol req=some r):EV prog wX req=some r:=by
 refine P0 (pol:=pol) (fun f hf=>?_) (fun f=>?_) (fun f hf=>?_) h
 · show (Zu.no f||_)=true
   rw[hf];rfl
 · by_cases hf:f=166
   · left
     show (Zu.no f||f==166)=true
     rw[hf];simp
   · right;intro args hp
     show rl f args hp=sJ f args hp
     unfold rl;rw[if_neg hf]
 · by_cases hf':f=166
   · right;intro args hp;subst hf'
     show sJ 166 args hp=none
     rw[noS]
   · left;intro args hp
     show rl f args hp=sJ f args hp
     unfold rl;rw[if_neg hf']
theorem mP {g:Nat}{args:List V}{v:V}(h:zy (EV prog pol) g args=some v):zy (EV prog wX) g args=some v:=by
 unfold zy at h ⊢
 split at h
 · rename_i v' hv
   cases h;rw[mO hv]
 · cases h
theorem wx:∀ (rc:Rec) (f m p n:Nat) (fs:List Fr) (k:qm) (e:Env) (h:Heap) (l:List Oper),goC ⟨prog,wX,rc,f,m⟩ (.region n l.toArray true) p fs k e h=goD ⟨prog,wX,rc,f,m⟩ (l.all (yo wX f)) (mJ f&&dmT f n) (dmT f (n+1000)) l fs k e (ghH (ghT f n) e h):=fun _ _ _ _ _ _ _ _ _ _=>ic _ _ _ _ _ _ _ _ rfl
theorem LVS2:∀ f p,wX.live f p=zL f p:=fun _ _=>rfl
theorem OVS2:∀ f p,wX.outs f p=zK f p:=fun _ _=>rfl
theorem PMS2:∀ f d,wX.pm f d=pmT f d:=fun _ _=>rfl
theorem OWS2:∀ f,wX.own f=mJ f:=fun _=>rfl
theorem DMS2:∀ f n,wX.dm f n=dmT f n:=fun _ _=>rfl
theorem GHS2:∀ f n,wX.gh f n=ghT f n:=fun _ _=>rfl
theorem GS2:type_of% @LVS2∧type_of% @OVS2∧type_of% @LTS∧type_of% @TYS∧type_of% @PMS2∧type_of% @OWS2∧type_of% @GHS2∧type_of% @DMS2∧type_of% @pmT.eq_1∧type_of% @mJ.eq_1∧type_of% @ghT.eq_1∧type_of% @dmT.eq_1:=⟨@LVS2,@OVS2,@LTS,@TYS,@PMS2,@OWS2,@GHS2,@DMS2,@pmT.eq_1,@mJ.eq_1,@ghT.eq_1,@dmT.eq_1⟩
theorem QG (ks:List Str)(hk:ks.all vok=true)(h:ks.length≤1073741824)(n:Nat)(hn:n=ks.length)(cap:Option Nat):EV prog wX (.callO false 166 [.sl 0 0 n cap,.t (.fn 89 [])] [.ts 1 (strs ks)])=some (.call (.tup []) [.ts 1 (strs (vd ks hk))]) :=
 kD (x:=(.tup [],[.ts 1 (strs (vd ks hk))])) (by
  show rl 166 [.sl 0 0 n cap,.t (.fn 89 [])] [.ts 1 (strs ks)]=_
  unfold rl;rw[if_pos rfl];simp only[dG,ub];rw[dif_pos hk,if_pos ⟨trivial,hn,h⟩])
def pe:Option Str→List Str→List Str
 | _,[]=>[]
 | p,x::r=>if p=some x then pe (some x) r else x::pe (some x) r
theorem jt:∀ (l:List Str) (p:Option Str) (y:Str),pe p (l++[y])=pe p l++if (match l.getLast? with|some z=>some z|none=>p)=some y then [] else [y]
 | [],p,y=>by
  show (if p=some y then [] else [y])=[]++(if p=some y then [] else [y])
  rfl
 | x :: r, p, y => by
  have ih:=jt r (some x) y;have e:(match (x::r).getLast? with|some z=>some z|none=>p)=(match r.getLast? with|some z=>some z|none=>some x):=by
   cases r with
   | nil=>rfl
   | cons z r =>
    rw[List.getLast?_cons_cons]
    cases h:(z::r).getLast? with
    | some w=>rfl
    | none=>simp at h
  rw[List.cons_append,pe,pe,ih,e]
  split
  · rfl
  · rfl
theorem fS (zs:List Str):∀ m,m≤zs.length→Lib.compactUpTo zs.toArray m=pe none (zs.take m)
 | 0,_=>by simp[Lib.compactUpTo,pe]
 | m + 1, h => by
  rw[Lib.compactUpTo_succ,fS zs m (by omega)];have hm:m<zs.length:=by omega
  have e:zs.take (m+1)=zs.take m++[zs[m]]:=by rw[List.take_succ_eq_append_getElem hm]
  rw[e,jt]
  congr 1
  have e2:zs.toArray[m]! = zs[m]:=by simp[hm]
  rw[e2]
  cases m with
  | zero=>simp[Lib.keeps]
  | succ k =>
   have e3:(zs.take (k+1)).getLast? = some zs[k]:=by
    rw[List.take_succ_eq_append_getElem (show k<zs.length by omega)];exact List.getLast?_concat
   have e4:zs.toArray[k+1 - 1]! = zs[k]:=by simp[show k<zs.length by omega]
   rw[e3];unfold Lib.keeps;rw[e2,e4]
   by_cases hx:zs[k]=zs[k+1]
   · simp[hx]
   · have hx':zs[k+1]≠zs[k]:=fun e=>hx e.symm
     simp[hx,hx']
theorem W5:∀ (x:Str) (r:List Str),rA (x::r)=x::pe (some x) r
 | x,[]=>rfl
 | x, y :: r => by
  rw[rA,W5 y r,pe]
  cases h:(x==y) with
  | true =>
   have:x=y:=by simpa using h
   subst this;simp
  | false =>
   have:¬ (some x=some y):=by simpa using h
   rw[if_neg this];rfl
theorem Vx (zs:List Str):Lib.compact zs=rA zs:=by
 unfold Lib.compact;rw[fS zs zs.length (Nat.le_refl _),List.take_length]
 cases zs with
 | nil=>rfl
 | cons x r=>rw[W5,pe];simp
theorem QZ {l:List Str}(hl:∀ s∈l,s.length≤1048700):(l.filter isV).all vok=true:=by
 rw[List.all_eq_true];intro s hs;obtain⟨h1,h2⟩:=List.mem_filter.1 hs;unfold vok;rw[h2];simpa using hl s h1
theorem uF:∀ (l out:List Str),(yS out l).length≤out.length+l.length
 | [],out=>by simp[yS]
 | s :: r, out => by
  rw[yS];have h:=uF r (cond (isV s) (rp out s) out);have h2:(cond (isV s) (rp out s) out).length≤out.length+1:=by
   cases isV s with
   | false=>simp
   | true =>
    rw[cond_true];unfold rp
    cases Wm out s with
    | true=>simp
    | false =>
     have:=eT out s;simp only[cond_false,List.length_append,List.length_take,List.length_cons,List.length_drop];omega
  simp only[List.length_cons];omega
theorem SV (l:List Str)(hl:l.length≤1048576)(hs:∀ s∈l,s.length≤1048700):∀ (rest pre:List Str) (acc:List Str) (m:Nat) (cap:Option Nat),l=pre++rest→m=acc.length→m+rest.length≤1073741824→∃ cap',
 EV prog wX (.loop 109 58 0 [.sl 0 0 m cap,.t (.list 1 (strs l)),.t (.int .i64 (l.length:Int)),.t (.int .i64 (pre.length:Int))] [.ts 1 (strs acc)])
  = some (.loop (.exit 0) [.sl 0 0 (m+(rest.filter isV).length) cap'] [.ts 1 (strs (acc++rest.filter isV))])
 | [],pre,acc,m,cap,h,hm,hmM=>by
  have c:decide ((pre.length:Int)<(l.length:Int))=false:=by simp[h]
  refine⟨cap,?_⟩;simp only[List.filter_nil,List.append_nil,List.length_nil,Nat.add_zero];refine zj func109 rfl rfl ?_;simp (disch:=(try simp only[LL]);omega) only[↓GO,↓wx,GA,GX,ren,zk,za,refs,z8,cst,zo,isC,bin,una,z7,zd,blt,asArg,zg,zc,zf,z6,zr,unN,ze,zm,zb,GS2,simprocAttr,GZ,c,zA]
 | s :: rest, pre, acc, m, cap, h, hm, hmM => by
  have c:decide ((pre.length:Int)<(l.length:Int))=true:=by simp[h];omega
  have hget:(strs l)[pre.length]? = some [.str s]:=xj (by rw[h];simp);have hlen:pre.length+rest.length+1≤l.length:=by rw[h];simp;omega
  have d1:=mP (qR s (hs s (by rw[h];simp)));have hsl:(strs acc).length=m:=by rw[zn,hm]
  simp only[List.length_cons]at hmM;rw[List.filter_cons]
  cases q:isV s with
  | true =>
   rw[q]at d1;obtain⟨cap',IH⟩:=SV l hl hs rest (pre++[s]) (acc++[s]) (m+1) none (by rw[h];simp) (by simp[hm]) (by omega);rw[show ((pre++[s]).length:Int)=(pre.length:Int)+1 by simp]at IH;rw[show strs (acc++[s])=strs acc++[[.str s]] by simp[strs]]at IH;refine⟨cap',?_⟩;simp only[if_true,List.length_cons];rw[show m+((rest.filter isV).length+1)=m+1+(rest.filter isV).length by omega,show acc++s::rest.filter isV=(acc++[s])++rest.filter isV by simp];clear h hs;generalize (acc++[s])++rest.filter isV=Z at *;refine zj func109 rfl rfl ?_;simp (disch:=(try simp only[LL]);omega) only[↓GO,↓wx,GA,GX,ren,zk,za,refs,z8,cst,zo,isC,bin,una,z7,zd,blt,asArg,zg,zc,zf,z6,zr,unN,ze,zm,zb,GS2,simprocAttr,GZ,c,hget,d1,zi,hsl,zA,IH,yf]
  | false =>
   rw[q]at d1;obtain⟨cap',IH⟩:=SV l hl hs rest (pre++[s]) acc m cap (by rw[h];simp) hm (by omega);rw[show ((pre++[s]).length:Int)=(pre.length:Int)+1 by simp]at IH;refine⟨cap',?_⟩;simp only[Bool.false_eq_true,if_false];clear h hs;generalize acc++rest.filter isV=Z at *;refine zj func109 rfl rfl ?_;simp (disch:=(try simp only[LL]);omega) only[↓GO,↓wx,GA,GX,ren,zk,za,refs,z8,cst,zo,isC,bin,una,z7,zd,blt,asArg,zg,zc,zf,z6,zr,unN,ze,zm,zb,GS2,simprocAttr,GZ,c,hget,d1,zi,zA,IH]
theorem PQ (l:List Str)(hl:l.length≤1048576)(hs:∀ s∈l,s.length≤1048700):zy (EV prog wX) 109 [.t (.list 1 (strs l))]=some (.t (.list 1 (strs (yS [] l)))):=by
 obtain⟨cap,L⟩:=SV l hl hs l [] [] 0 (some 0) rfl rfl (by omega);have hk:=QZ hs;have hfl:(l.filter isV).length≤1048576:=Nat.le_trans (List.length_filter_le _ _) hl;have d1:=QG (l.filter isV) hk (by omega) (l.filter isV).length rfl cap;have hsl:=nY (l.filter isV) hk;have d2:=mO (OP (vd (l.filter isV) hk) (by omega) (l.filter isV).length hsl.symm cap);have hcl:=o0 (vd (l.filter isV) hk);have hrl:=mB (vd (l.filter isV) hk);have ht:(strs (rB (vd (l.filter isV) hk))).take (Lib.compact (vd (l.filter isV) hk)).length=strs (Lib.compact (vd (l.filter isV) hk)):=by
  unfold rB strs;rw[← List.map_take,List.take_left]
 have e:Lib.compact (vd (l.filter isV) hk)=yS [] l:=by
  rw[Vx];exact WZ l _ (ZF _ hk) (V0 _ hk)
 rw[e]at d2 ht hcl;simp only[List.length_nil,Int.natCast_zero,Nat.zero_add,List.nil_append,show strs []=[] from rfl]at L;rw[hsl]at hcl hrl;generalize rB (vd (l.filter isV) hk)=C at *;generalize vd (l.filter isV) hk=B at *;generalize yS [] l=R at *;generalize l.filter isV=A at *;have hCl:(strs C).length=A.length:=by rw[zn,hrl]
 apply zw;refine zx rfl func109 rfl (by kernel_rfl) ?_;unfold Tryz.f109;simp (disch:=(try simp only[LL]);omega) only[↓GO,↓wx,GA,GX,ren,zk,za,refs,z8,cst,zo,isC,bin,una,z7,zd,blt,asArg,zg,zc,zf,z6,zr,unN,ze,zm,zb,GS2,simprocAttr,GZ,L,d1,d2,ht,hCl,zn,List.drop_zero,zA]
theorem S4 (out:List Str)(hol:out.length≤1048576)(ho:∀ s∈out,s.length≤1048700)(s:Str)(hsl:s.length≤1048700)(t0 t4:T)(m:Nat)(hm:m=out.length)(cap:Option Nat):∀ (rest pre:List Str),out=pre++rest →
 EV prog wX (.loop 123 29852 0 [.t t0,.sl 0 0 m cap,.t t4,.ptr 1 0 0,.t (.int .i64 (pre.length:Int))] [.ts 1 (strs out),.vs 4 [(zq s).1.enc.map .t]])
  = some (.loop (.exit 2) [.t t0,.sl 0 0 m cap,.t t4,.t (.int .i64 ((pre.length+w9 rest s:Nat):Int))] [.ts 1 (strs out)])
 | [],pre,h=>by
  have c:decide ((pre.length:Int)<(m:Int))=false:=by simp[hm,h]
  rw[show w9 [] s=0 from rfl,Nat.add_zero];generalize (zq s).1=v;simp only[Ver.enc,List.map_cons,List.map_nil];refine zj func123 rfl rfl ?_;simp (disch:=(try simp only[LL]);omega) only[↓GO,↓wx,GA,GX,ren,zk,za,refs,z8,cst,zo,isC,bin,una,z7,zd,blt,asArg,zg,zc,zf,z6,zr,unN,ze,zm,zb,GS2,simprocAttr,GZ,c,zA]
 | x :: rest, pre, h => by
  have c:decide ((pre.length:Int)<(m:Int))=true:=by simp[hm,h];omega
  have c0:decide ((0:Int)≤(pre.length:Int))=true:=by simp
  have hget:(strs out)[pre.length]? = some [.str x]:=xj (by rw[h];simp);have hlen:pre.length+rest.length+1≤out.length:=by rw[h];simp;omega
  have hx:=ho x (by rw[h];simp);have d1:=mP (rC x hx);have d2:=mP (iP (zq x).1 (zq s).1 (yz x hx).1 (yz s hsl).1);have IH:=S4 out hol ho s hsl t0 t4 m hm cap rest (pre++[x]) (by rw[h];simp);rw[show ((pre++[x]).length:Int)=(pre.length:Int)+1 by simp,show (pre++[x]).length+w9 rest s=pre.length+(w9 rest s+1) by simp;omega]at IH;rw[w9,show wg x s=tY (zq x).1 (zq s).1 from rfl];unfold rvT at d1;generalize tY (zq x).1 (zq s).1=n at *;generalize (zq x).2=okx at *;generalize (zq x).1=vx at *;generalize (zq s).1=v at *;clear h ho;simp only[Ver.enc,List.map_cons,List.map_nil]at d1 d2 IH ⊢
  cases q:decide (n≥0) with
  | true =>
   simp only[cond_true,Nat.add_zero];refine zj func123 rfl rfl ?_;simp (disch:=(try simp only[LL]);omega) only[↓GO,↓wx,GA,GX,ren,zk,za,refs,z8,cst,zo,isC,bin,una,z7,zd,blt,asArg,zg,zc,zf,z6,zr,unN,ze,zm,zb,GS2,simprocAttr,GZ,c,c0,hget,d1,d2,q,zA]
  | false =>
   simp only[cond_false];refine zj func123 rfl rfl ?_;simp (disch:=(try simp only[LL]);omega) only[↓GO,↓wx,GA,GX,ren,zk,za,refs,z8,cst,zo,isC,bin,una,z7,zd,blt,asArg,zg,zc,zf,z6,zr,unN,ze,zm,zb,GS2,simprocAttr,GZ,c,c0,hget,d1,d2,q,zi,zA,IH]
theorem UE {out:List Str}{s:Str}(h:out[w9 out s]? = some s):rp out s=out:=by
 unfold rp Wm;rw[h];simp
theorem XC {out:List Str}{s:Str}(h:out[w9 out s]? ≠ some s):rp out s=out.take (w9 out s)++s::out.drop (w9 out s):=by
 unfold rp Wm;have:(out[w9 out s]? == some s)=false:=by simpa using h
 rw[this];rfl
theorem WA (l:List Str)(hl:l.length≤1048576)(hs:∀ s∈l,s.length≤1048700):∀ (rest pre:List Str) (out:List Str) (m:Nat) (cap:Option Nat),l=pre++rest→m=out.length→m+rest.length≤1048576→(∀ s∈out,s.length≤1048700)→∃ cap',
 EV prog wX (.loop 123 58 0 [.t (.list 1 (strs l)),.sl 0 0 m cap,.t (.int .i64 (pre.length:Int))] [.ts 1 (strs out)])
  = some (.loop (.exit 0) [.sl 0 0 (yS out rest).length cap'] [.ts 1 (strs (yS out rest))])
 | [],pre,out,m,cap,h,hm,hmM,ho=>by
  have c:decide ((pre.length:Int)<(l.length:Int))=false:=by simp[h]
  refine⟨cap,?_⟩;rw[yS,← hm];refine zj func123 rfl rfl ?_;simp (disch:=(try simp only[LL]);omega) only[↓GO,↓wx,GA,GX,ren,zk,za,refs,z8,cst,zo,isC,bin,una,z7,zd,blt,asArg,zg,zc,zf,z6,zr,unN,ze,zm,zb,GS2,simprocAttr,GZ,c,zn,zA]
 | s :: rest, pre, out, m, cap, h, hm, hmM, ho => by
  have c:decide ((pre.length:Int)<(l.length:Int))=true:=by simp[h];omega
  have hget:(strs l)[pre.length]? = some [.str s]:=xj (by rw[h];simp);have hlen:pre.length+rest.length+1≤l.length:=by rw[h];simp;omega
  have hsb:=hs s (by rw[h];simp);have d1:=mP (rC s hsb);unfold rvT at d1;simp only[List.length_cons]at hmM;rw[yS]
  cases q:isV s with
  | false =>
   have q':(zq s).2=false:=q;rw[q']at d1;obtain⟨cap',IH⟩:=WA l hl hs rest (pre++[s]) out m cap (by rw[h];simp) hm (by omega) ho;rw[show ((pre++[s]).length:Int)=(pre.length:Int)+1 by simp]at IH;refine⟨cap',?_⟩;rw[cond_false];clear h hs;generalize yS out rest=Z at *;generalize (zq s).1=v at *;simp only[Ver.enc,List.map_cons,List.map_nil]at d1;refine zj func123 rfl rfl ?_;simp (disch:=(try simp only[LL]);omega) only[↓GO,↓wx,GA,GX,ren,zk,za,refs,z8,cst,zo,isC,bin,una,z7,zd,blt,asArg,zg,zc,zf,z6,zr,unN,ze,zm,zb,GS2,simprocAttr,GZ,c,hget,d1,zn,zi,zA,IH]
  | true =>
   have q':(zq s).2=true:=q;rw[q']at d1;have L:=S4 out (by omega) ho s hsb (.list 1 (strs l)) (.int .i64 (pre.length:Int)) m hm cap out [] rfl;simp only[List.length_nil,Int.natCast_zero,Nat.zero_add]at L;have hp:=eT out s;rw[← hm]at hp;have c0:decide ((0:Int)≤((w9 out s:Nat):Int))=true:=by simp
   have hsl:(strs out).length=m:=by rw[zn,hm]
   rw[cond_true]
   by_cases hx:out[w9 out s]? = some s
   · have hgx:=xj hx;have hlt:w9 out s<m:=by rw[hm];exact (List.getElem?_eq_some_iff.1 hx).1
     have c1:decide (((w9 out s:Nat):Int)<(m:Int))=true:=by simpa using hlt
     rw[UE hx];obtain⟨cap',IH⟩:=WA l hl hs rest (pre++[s]) out m cap (by rw[h];simp) hm (by omega) ho;rw[show ((pre++[s]).length:Int)=(pre.length:Int)+1 by simp]at IH;refine⟨cap',?_⟩;clear h hs ho hx;generalize yS out rest=Z at *;generalize (zq s).1=v at *;generalize w9 out s=p at *;simp only[Ver.enc,List.map_cons,List.map_nil]at d1 L;refine zj func123 rfl rfl ?_;simp (disch:=(try simp only[LL]);omega) only[↓GO,↓wx,GA,GX,ren,zk,za,refs,z8,cst,zo,isC,bin,una,z7,zd,blt,asArg,zg,zc,zf,z6,zr,unN,ze,zm,zb,GS2,simprocAttr,GZ,c,c0,c1,hget,hgx,d1,L,zn,zi,beq_self_eq_true,zA,IH]
   · have e:strs (rp out s)=((strs out).take (w9 out s)++[[.str s]])++(strs out).drop (w9 out s):=by rw[XC hx];simp[strs]
     have hil:(rp out s).length=m+1:=by
      rw[XC hx];simp only[List.length_append,List.length_take,List.length_cons,List.length_drop];omega
     have hA1:((strs out).take (w9 out s)).length=w9 out s:=by rw[List.length_take,hsl];omega
     have hB0:((strs out).drop (w9 out s)).take (m - w9 out s)=(strs out).drop (w9 out s):=List.take_of_length_le (by rw[List.length_drop,hsl];omega);have hB1:((strs out).drop (w9 out s)).length=m - w9 out s:=by rw[List.length_drop,hsl]
     have hE:w9 out s+1+(m - w9 out s)=m+1:=by omega
     obtain⟨cap',IH⟩:=WA l hl hs rest (pre++[s]) (rp out s) (m+1) none (by rw[h];simp) hil.symm (by omega) (fun y hy=>by
      rcases (qd out s y).1 hy with hy|rfl
      · exact ho y hy
      · exact hsb)
     rw[show ((pre++[s]).length:Int)=(pre.length:Int)+1 by simp,e]at IH;refine⟨cap',?_⟩;generalize yS (rp out s) rest=Z at *;generalize (zq s).1=v at *
     cases hy:out[w9 out s]? with
     | none =>
      have hge:m≤w9 out s:=by rw[hm];exact List.getElem?_eq_none_iff.1 hy
      have c1:decide (((w9 out s:Nat):Int)<(m:Int))=false:=by simpa using hge
      clear h hs ho hx hy e hil;generalize w9 out s=p at *;generalize hA:(strs out).take p=A at *;generalize hB:(strs out).drop p=B at *;have hC:(A++[[T.str s]]).length=p+1:=by simp[hA1]
      simp only[Ver.enc,List.map_cons,List.map_nil]at d1 L;refine zj func123 rfl rfl ?_;simp (disch:=(try simp only[LL]);omega) only[↓GO,↓wx,GA,GX,ren,zk,za,refs,z8,cst,zo,isC,bin,una,z7,zd,blt,asArg,zg,zc,zf,z6,zr,unN,ze,zm,zb,GS2,simprocAttr,GZ,c,c0,c1,hget,d1,L,zn,hsl,Nat.sub_zero,hA,hA1,hC,hB,hB0,hB1,hE,List.nil_append,Nat.zero_add,zi,zA,IH,yf];refine zR (by kernel_rfl) ?_
      first|exact IH|simp (disch:=(try simp only[LL]);omega) only[↓GO,↓wx,GA,GX,ren,zk,za,refs,z8,cst,zo,isC,bin,una,z7,zd,blt,asArg,zg,zc,zf,z6,zr,unN,ze,zm,zb,GS2,simprocAttr,GZ,IH,zi]
     | some x =>
      have hgx:=xj hy;have hlt:w9 out s<m:=by rw[hm];exact (List.getElem?_eq_some_iff.1 hy).1
      have c1:decide (((w9 out s:Nat):Int)<(m:Int))=true:=by simpa using hlt
      have qx:(x==s)=false:=by rw[beq_eq_false_iff_ne];intro e';rw[hy,e']at hx;exact hx rfl
      clear h hs ho hx hy e hil;generalize w9 out s=p at *;generalize hA:(strs out).take p=A at *;generalize hB:(strs out).drop p=B at *;have hC:(A++[[T.str s]]).length=p+1:=by simp[hA1]
      simp only[Ver.enc,List.map_cons,List.map_nil]at d1 L;refine zj func123 rfl rfl ?_;simp (disch:=(try simp only[LL]);omega) only[↓GO,↓wx,GA,GX,ren,zk,za,refs,z8,cst,zo,isC,bin,una,z7,zd,blt,asArg,zg,zc,zf,z6,zr,unN,ze,zm,zb,GS2,simprocAttr,GZ,c,c0,c1,hget,hgx,qx,d1,L,zn,hsl,Nat.sub_zero,hA,hA1,hC,hB,hB0,hB1,hE,List.nil_append,Nat.zero_add,zi,zA,IH,yf];refine zR (by kernel_rfl) ?_
      first|exact IH|simp (disch:=(try simp only[LL]);omega) only[↓GO,↓wx,GA,GX,ren,zk,za,refs,z8,cst,zo,isC,bin,una,z7,zd,blt,asArg,zg,zc,zf,z6,zr,unN,ze,zm,zb,GS2,simprocAttr,GZ,IH,zi]
theorem PO (l:List Str)(hl:l.length≤1048576)(hs:∀ s∈l,s.length≤1048700):zy (EV prog wX) 123 [.t (.list 1 (strs l))]=some (.t (.list 1 (strs (yS [] l)))):=by
 obtain⟨cap,L⟩:=WA l hl hs l [] [] 0 (some 0) rfl rfl (by omega) (fun s hs=>by simp at hs);have ht:(strs (yS [] l)).take (yS [] l).length=strs (yS [] l):=by rw[← zn (yS [] l)];simp
 simp only[List.length_nil,Int.natCast_zero,show strs []=[] from rfl]at L;generalize yS [] l=Z at *;apply zw;refine zx rfl func123 rfl (by kernel_rfl) ?_;unfold Tryz.f123;simp (disch:=(try simp only[LL]);omega) only[↓GO,↓wx,GA,GX,ren,zk,za,refs,z8,cst,zo,isC,bin,una,z7,zd,blt,asArg,zg,zc,zf,z6,zr,unN,ze,zm,zb,GS2,simprocAttr,GZ,L,ht,zA]
def yd (ps:List zh)(name:Str):List Str:=(ps.filter fun p=>p.name==name).map (·.version)
def xo (g:zB)(name:Str):List Str:=yS [] (yd g.packs name)
theorem j9 (ps:List zh)(name:Str):(yd ps name).length≤ps.length:=by
 unfold yd;rw[List.length_map];exact List.length_filter_le _ _
theorem lp (p:zh)(ps:List zh)(name:Str):yd (p::ps) name=cond (p.name==name) (p.version::yd ps name) (yd ps name):=by
 unfold yd;rw[List.filter_cons]
 cases (p.name==name)<;>rfl
theorem qa {g:zB}(hB:GB g)(name:Str):(yd g.packs name).length≤1048576∧∀ s∈yd g.packs name,s.length≤1048700:=by
 obtain⟨h1,_,h3⟩:=hB.len;refine⟨Nat.le_trans (j9 _ _) h1,fun s hs=>?_⟩;obtain⟨p,hp,rfl⟩:=List.mem_map.1 hs;have:=h3 p (List.mem_filter.1 hp).1;simp only[zh.zX]at this;omega
theorem SU (name:Str)(ps:List zh)(hl:ps.length≤1048576):∀ (rest pre:List zh) (acc:List Str) (m:Nat) (cap:Option Nat),ps=pre++rest→m=acc.length→m+rest.length≤1073741824→∃ cap',
 EV prog wX (.loop 44 58 0 [.t (.str name),.sl 0 0 m cap,.t (.list 6 (zh.zC ps)),.t (.int .i64 (ps.length:Int)),.t (.int .i64 (pre.length:Int))] [.ts 1 (strs acc)])
  = some (.loop (.exit 0) [.sl 0 0 (m+(yd rest name).length) cap'] [.ts 1 (strs (acc++yd rest name))])
 | [],pre,acc,m,cap,h,hm,hmM=>by
  have c:decide ((pre.length:Int)<(ps.length:Int))=false:=by simp[h]
  refine⟨cap,?_⟩;rw[show yd [] name=[] from rfl];simp only[List.append_nil,List.length_nil,Nat.add_zero];refine zj func44 rfl rfl ?_;simp (disch:=(try simp only[LL]);omega) only[↓GO,↓wx,GA,GX,ren,zk,za,refs,z8,cst,zo,isC,bin,una,z7,zd,blt,asArg,zg,zc,zf,z6,zr,unN,ze,zm,zb,GS2,simprocAttr,GZ,c,zA]
 | p :: rest, pre, acc, m, cap, h, hm, hmM => by
  have c:decide ((pre.length:Int)<(ps.length:Int))=true:=by simp[h];omega
  have hget:(zh.zC ps)[pre.length]? = some p.enc:=by rw[h];simp[zh.zC]
  have hlen:pre.length+rest.length+1≤ps.length:=by rw[h];simp;omega
  have hsl:(strs acc).length=m:=by rw[zn,hm]
  simp only[List.length_cons]at hmM;rw[lp];obtain⟨pn,version,source,sums,dev,zE⟩:=p;simp only[zh.enc]at hget;simp only
  cases q:(pn==name) with
  | true =>
   obtain⟨cap',IH⟩:=SU name ps hl rest (pre++[⟨pn,version,source,sums,dev,zE⟩]) (acc++[version]) (m+1) none (by rw[h];simp) (by simp[hm]) (by omega);rw[show ((pre++[⟨pn,version,source,sums,dev,zE⟩]:List zh).length:Int)=(pre.length:Int)+1 by simp]at IH;rw[show strs (acc++[version])=strs acc++[[.str version]] by simp[strs]]at IH;refine⟨cap',?_⟩;simp only[cond_true,List.length_cons];rw[show m+((yd rest name).length+1)=m+1+(yd rest name).length by omega,show acc++version::yd rest name=(acc++[version])++yd rest name by simp];clear h;generalize (acc++[version])++yd rest name=Z at *;refine zj func44 rfl rfl ?_;simp (disch:=(try simp only[LL]);omega) only[↓GO,↓wx,GA,GX,ren,zk,za,refs,z8,cst,zo,isC,bin,una,z7,zd,blt,asArg,zg,zc,zf,z6,zr,unN,ze,zm,zb,GS2,simprocAttr,GZ,c,hget,q,zi,hsl,zA,IH,yf]
  | false =>
   obtain⟨cap',IH⟩:=SU name ps hl rest (pre++[⟨pn,version,source,sums,dev,zE⟩]) acc m cap (by rw[h];simp) hm (by omega);rw[show ((pre++[⟨pn,version,source,sums,dev,zE⟩]:List zh).length:Int)=(pre.length:Int)+1 by simp]at IH;refine⟨cap',?_⟩;simp only[cond_false];clear h;generalize acc++yd rest name=Z at *;refine zj func44 rfl rfl ?_;simp (disch:=(try simp only[LL]);omega) only[↓GO,↓wx,GA,GX,ren,zk,za,refs,z8,cst,zo,isC,bin,una,z7,zd,blt,asArg,zg,zc,zf,z6,zr,unN,ze,zm,zb,GS2,simprocAttr,GZ,c,hget,q,zi,zA,IH]
theorem PN (g:zB)(hB:GB g)(name:Str):zy (EV prog wX) 44 [.agg (g.enc.map .t),.t (.str name)]=some (.t (.list 1 (strs (xo g name)))):=by
 obtain⟨h1,h2⟩:=qa hB name;have h3:=hB.len;obtain⟨cap,L⟩:=SU name g.packs h3.1 g.packs [] [] 0 (some 0) rfl rfl (by omega);have d1:=PQ (yd g.packs name) h1 h2;unfold xo;have hnl:=zn (yd g.packs name);have ht:(strs (yd g.packs name)).take (yd g.packs name).length=strs (yd g.packs name):=by rw[← hnl];simp
 clear hB h2 h3;obtain⟨top,packs⟩:=g;simp only[List.length_nil,Int.natCast_zero,Nat.zero_add,List.nil_append,show strs []=[] from rfl,zB.enc,List.map_cons,List.map_nil]at L d1 ht ⊢;generalize yS [] (yd packs name)=Z at *;generalize yd packs name=N at *;apply zw;refine zx rfl func44 rfl (by kernel_rfl) ?_;unfold Tryz.f44;simp (disch:=(try simp only[LL]);omega) only[↓GO,↓wx,GA,GX,ren,zk,za,refs,z8,cst,zo,isC,bin,una,z7,zd,blt,asArg,zg,zc,zf,z6,zr,unN,ze,zm,zb,GS2,simprocAttr,GZ,L,d1,ht,zh.zF,zA]
theorem SS (name:Str)(g:zB)(hB:GB g):∀ (rest pre:List zh) (acc:List Str) (m:Nat) (cap:Option Nat),g.packs=pre++rest→m=acc.length→m+rest.length≤1073741824→∃ cap',
 EV prog wX (.loop 121 58 0 [.t (.str name),.ptr 0 0 0,.sl 1 0 m cap,.t (.int .i64 (pre.length:Int))] [.vs 2 [g.enc.map .t],.ts 1 (strs acc)])
  = some (.loop (.exit 0) [.sl 0 0 (m+(yd rest name).length) cap'] [.ts 1 (strs (acc++yd rest name))])
 | [],pre,acc,m,cap,h,hm,hmM=>by
  have c:decide ((pre.length:Int)<(g.packs.length:Int))=false:=by simp[h]
  refine⟨cap,?_⟩;rw[show yd [] name=[] from rfl];clear hB;obtain⟨top,packs⟩:=g;simp only[List.append_nil,List.length_nil,Nat.add_zero,zB.enc,List.map_cons,List.map_nil]at c ⊢;refine zj func121 rfl rfl ?_;simp (disch:=(try simp only[LL]);omega) only[↓GO,↓wx,GA,GX,ren,zk,za,refs,z8,cst,zo,isC,bin,una,z7,zd,blt,asArg,zg,zc,zf,z6,zr,unN,ze,zm,zb,GS2,simprocAttr,GZ,c,zh.zF,zA]
 | p :: rest, pre, acc, m, cap, h, hm, hmM => by
  have c:decide ((pre.length:Int)<(g.packs.length:Int))=true:=by simp[h];omega
  have hget:(zh.zC g.packs)[pre.length]? = some p.enc:=by rw[h];simp[zh.zC]
  have hlen:pre.length+rest.length+1≤g.packs.length:=by rw[h];simp;omega
  have hpl:=hB.len.1;have hsl:(strs acc).length=m:=by rw[zn,hm]
  simp only[List.length_cons]at hmM;rw[lp];obtain⟨pn,version,source,sums,dev,zE⟩:=p;simp only[zh.enc]at hget;simp only
  cases q:(pn==name) with
  | true =>
   obtain⟨cap',IH⟩:=SS name g hB rest (pre++[⟨pn,version,source,sums,dev,zE⟩]) (acc++[version]) (m+1) none (by rw[h];simp) (by simp[hm]) (by omega);rw[show ((pre++[⟨pn,version,source,sums,dev,zE⟩]:List zh).length:Int)=(pre.length:Int)+1 by simp]at IH;rw[show strs (acc++[version])=strs acc++[[.str version]] by simp[strs]]at IH;refine⟨cap',?_⟩;simp only[cond_true,List.length_cons];rw[show m+((yd rest name).length+1)=m+1+(yd rest name).length by omega,show acc++version::yd rest name=(acc++[version])++yd rest name by simp];clear h hB;obtain⟨top,packs⟩:=g;simp only[zB.enc,List.map_cons,List.map_nil]at c hget hlen hpl IH ⊢;generalize (acc++[version])++yd rest name=Z at *;refine zj func121 rfl rfl ?_;simp (disch:=(try simp only[LL]);omega) only[↓GO,↓wx,GA,GX,ren,zk,za,refs,z8,cst,zo,isC,bin,una,z7,zd,blt,asArg,zg,zc,zf,z6,zr,unN,ze,zm,zb,GS2,simprocAttr,GZ,c,hget,q,zh.zF,zi,hsl,zA,IH,yf]
  | false =>
   obtain⟨cap',IH⟩:=SS name g hB rest (pre++[⟨pn,version,source,sums,dev,zE⟩]) acc m cap (by rw[h];simp) hm (by omega);rw[show ((pre++[⟨pn,version,source,sums,dev,zE⟩]:List zh).length:Int)=(pre.length:Int)+1 by simp]at IH;refine⟨cap',?_⟩;simp only[cond_false];clear h hB;obtain⟨top,packs⟩:=g;simp only[zB.enc,List.map_cons,List.map_nil]at c hget hlen hpl IH ⊢;generalize acc++yd rest name=Z at *;refine zj func121 rfl rfl ?_;simp (disch:=(try simp only[LL]);omega) only[↓GO,↓wx,GA,GX,ren,zk,za,refs,z8,cst,zo,isC,bin,una,z7,zd,blt,asArg,zg,zc,zf,z6,zr,unN,ze,zm,zb,GS2,simprocAttr,GZ,c,hget,q,zh.zF,zi,zA,IH]
theorem c_vsR (g:zB)(hB:GB g)(name:Str):zy (EV prog wX) 121 [.agg (g.enc.map .t),.t (.str name)]=some (.t (.list 1 (strs (xo g name)))):=by
 obtain⟨h1,h2⟩:=qa hB name;have h3:=hB.len;obtain⟨cap,L⟩:=SS name g hB g.packs [] [] 0 (some 0) rfl rfl (by omega);have d1:=PO (yd g.packs name) h1 h2;unfold xo;have hnl:=zn (yd g.packs name);have ht:(strs (yd g.packs name)).take (yd g.packs name).length=strs (yd g.packs name):=by rw[← hnl];simp
 clear hB h2 h3;obtain⟨top,packs⟩:=g;simp only[List.length_nil,Int.natCast_zero,Nat.zero_add,List.nil_append,show strs []=[] from rfl,zB.enc,List.map_cons,List.map_nil]at L d1 ht ⊢;generalize yS [] (yd packs name)=Z at *;generalize yd packs name=N at *;apply zw;refine zx rfl func121 rfl (by kernel_rfl) ?_;unfold Tryz.f121;simp (disch:=(try simp only[LL]);omega) only[↓GO,↓wx,GA,GX,ren,zk,za,refs,z8,cst,zo,isC,bin,una,z7,zd,blt,asArg,zg,zc,zf,z6,zr,unN,ze,zm,zb,GS2,simprocAttr,GZ,L,d1,ht,zh.zF,zA]
theorem uX (l:List Str):en (yS [] l)∧pF (yS [] l)∧∀ s∈yS [] l,s∈l:=by
 obtain⟨k1,k2,k3⟩:=qp l [] (fun s hs=>by simp at hs) (by simp[pF]);exact⟨k1,k2,fun s hs=>by
  rcases (k3 s).1 hs with h|h
  · simp at h
  · exact h.1⟩
def gj (ns:List zu)(name s:Str):Bool:=ns.any fun n=>afT n name s
def okV (ns:List zu)(name low s:Str):Bool:=decide (wg s low≥0)&&!(gj ns name s)
def mdO (ns:List zu)(name low:Str)(l:List Str):Nat→Option Str
 | 0=>none
 | n+1=>match l[n]? with
  | some s=>cond (decide (wg s low≥0)) (cond (gj ns name s) (mdO ns name low l n) (some s)) none
  | none=>none
def mdR (ns:List zu)(name low:Str):Str→List Str→Str
 | b,[]=>b
 | b,s::r=>mdR ns name low (cond (okV ns name low s) s b) r
theorem Ye (ns:List zu)(name low:Str):∀ (l:List Str) (b:Str),mdR ns name low b l=((l.filter (okV ns name low)).getLast?).getD b
 | [],b=>rfl
 | s :: r, b => by
  rw[mdR,Ye ns name low r,List.filter_cons]
  cases okV ns name low s with
  | false=>rfl
  | true =>
   simp only[cond_true,if_true]
   cases h:r.filter (okV ns name low) with
   | nil=>rfl
   | cons x q=>rw[List.getLast?_cons_cons];cases h2:(x::q).getLast? with
    | none=>simp at h2
    | some z=>rfl
theorem S0 (ns:List zu)(name low:Str)(hlow:isV low=true)(l:List Str)(hv:en l)(hs:pF l):∀ n,n≤l.length→mdO ns name low l n=((l.take n).filter (okV ns name low)).getLast?
 | 0,_=>rfl
 | n + 1, h => by
  have hn:n<l.length:=by omega
  have e:l.take (n+1)=l.take n++[l[n]]:=List.take_succ_eq_append_getElem hn;rw[mdO,List.getElem?_eq_getElem hn,e,List.filter_append];simp only;have hf:[l[n]].filter (okV ns name low)=cond (okV ns name low l[n]) [l[n]] []:=by
   rw[List.filter_cons];cases okV ns name low l[n]<;>rfl
  rw[hf];unfold okV at *
  cases q1:decide (wg l[n] low≥0) with
  | true =>
   cases q2:gj ns name l[n] with
   | true =>
    simp only[Bool.not_true,Bool.and_false,cond_false,cond_true,List.append_nil];exact S0 ns name low hlow l hv hs n (by omega)
   | false =>
    simp only[Bool.not_false,Bool.and_true,cond_true,cond_false];rw[List.getLast?_concat]
  | false =>
   simp only[Bool.false_and,cond_false,List.append_nil];have h1:=of_decide_eq_false q1;have:(l.take n).filter (fun s=>decide (wg s low≥0)&&!(gj ns name s))=[]:=by
    rw[List.filter_eq_nil_iff];intro x hx;have hxl:=List.mem_of_mem_take hx;have hlt:wg x l[n]<0:=by
     obtain⟨i,hi,rfl⟩:=List.getElem_of_mem hx;have hi2:i<n:=by rw[List.length_take]at hi;omega
     rw[List.getElem_take];exact List.pairwise_iff_getElem.1 hs i n (by omega) hn hi2
    have:=yA.trans x l[n] low (hv x hxl) (hv _ (List.getElem_mem hn)) hlow hlt (by omega);simp only[Bool.and_eq_true,decide_eq_true_eq,not_and];intro h3;omega
   rw[this];rfl
def tu (g:zB)(ns:List zu)(name:Str)(vs:List Str):Str:=match (xo g name).getLast? with
 | none=>[]
 | some low=>mdR ns name low [] (yS [] vs)
theorem xR {l:List Str}{x:Str}(h:l.getLast? = some x):l[l.length - 1]? = some x∧0<l.length:=by
 rw[List.getLast?_eq_getElem?]at h;exact⟨h,by cases l with|nil=>simp at h|cons a r=>simp⟩
theorem bL {l:List Str}(h:l.getLast? = none):l=[]:=by simpa using h
theorem Pw (ns:List zu)(hl:ns.length≤1048576)(hb:∀ n∈ns,n.zX≤1048576)(name low:Str)(hn:name.length≤1048576)(hlow:low.length≤1048576)(hlv:isV low=true)(hv:List Str)(hi:hv[hv.length - 1]? = some low)(hp:0<hv.length)(hhl:hv.length≤1048576)(l:List Str)(hll:l.length≤1048576)(hlb:∀ s∈l,s.length≤1048576)(hla:en l):∀ n:Nat,n≤l.length →
 EV prog wX (.loop 37 250 0 [.t (.list 3 (zu.zC ns)),.ptr 0 0 0,.t (.list 1 (strs hv)),.ptr 1 0 0,.ptr 2 0 0] [.vs 1 [[.t (.str name)]],.vs 1 [[.t (.list 1 (strs l))]],.vs 1 [[.t (.int .i64 ((n:Int) - 1))]]])
  = some (match mdO ns name low l n with|some s=>.loop .ret [.t (.str s)] []|none=>.loop (.exit 0) [.bad] [])
 | 0,_=>by
  have c:decide ((0:Int) - 1≥0)=false:=by decide
  rw[mdO];simp only[Int.natCast_zero];refine zj func37 rfl rfl ?_;simp (disch:=(try simp only[LL]);omega) only[↓GO,↓wx,GA,GX,ren,zk,za,refs,z8,cst,zo,isC,bin,una,z7,zd,blt,asArg,zg,zc,zf,z6,zr,unN,ze,zm,zb,GS2,simprocAttr,GZ,c,xm,zA]
 | n + 1, h => by
  have hn':n<l.length:=by omega
  have hx:l[n]? = some l[n]:=List.getElem?_eq_getElem hn';have hxm:=List.getElem_mem hn';have hxb:=hlb _ hxm;have hxv:=hla _ hxm;generalize l[n]=s at hx hxm hxb hxv;have c:decide ((n:Int)≥0)=true:=by simp
  have e:((n+1:Nat):Int) - 1=(n:Int):=by omega
  have e2:(hv.length:Int) - 1=((hv.length - 1:Nat):Int):=by omega
  have hget:=xj hx;have hgl:=xj hi;have d1:=mP (WL s low (by omega) (by omega));rw[nK (zZ hxv).2.2.1 (zZ hlv).2.2.1]at d1
  change zy (EV prog wX) 89 [.t (.str s),.t (.str low)]=some (.t (.int .i64 (wg s low))) at d1
  have d2:=mP (c_mdC ns hl hb name hn l n s hx hxb);rw[show ns.any (fun x=>afT x name s)=gj ns name s from rfl]at d2;have IH:=Pw ns hl hb name low hn hlow hlv hv hi hp hhl l hll hlb hla n (by omega);rw[e,mdO,hx];simp only;generalize wg s low=z at *;generalize hv.length - 1=hk at *
  cases q1:decide (z≥0) with
  | false =>
   simp only[cond_false];refine zj func37 rfl rfl ?_;simp (disch:=(try simp only[LL]);omega) only[↓GO,↓wx,GA,GX,ren,zk,za,refs,z8,cst,zo,isC,bin,una,z7,zd,blt,asArg,zg,zc,zf,z6,zr,unN,ze,zm,zb,GS2,simprocAttr,GZ,c,hget,hgl,e2,d1,q1,zn,zi,xm,zA]
  | true =>
   cases q2:gj ns name s with
   | true =>
    rw[q2]at d2;simp only[cond_true];refine zj func37 rfl rfl ?_;simp (disch:=(try simp only[LL]);omega) only[↓GO,↓wx,GA,GX,ren,zk,za,refs,z8,cst,zo,isC,bin,una,z7,zd,blt,asArg,zg,zc,zf,z6,zr,unN,ze,zm,zb,GS2,simprocAttr,GZ,c,hget,hgl,e2,d1,d2,q1,zn,zi,xm,zA,IH]
   | false =>
    rw[q2]at d2;simp only[cond_true,cond_false];refine zj func37 rfl rfl ?_;simp (disch:=(try simp only[LL]);omega) only[↓GO,↓wx,GA,GX,ren,zk,za,refs,z8,cst,zo,isC,bin,una,z7,zd,blt,asArg,zg,zc,zf,z6,zr,unN,ze,zm,zb,GS2,simprocAttr,GZ,c,hget,hgl,e2,d1,d2,q1,zn,zi,xm,zA]
theorem c_mdI (g:zB)(hB:GB g)(ns:List zu)(hl:ns.length≤1048576)(hb:∀ n∈ns,n.zX≤1048576)(name:Str)(hn:name.length≤1048576)(vs:List Str)(hvl:vs.length≤1048576)(hvb:∀ s∈vs,s.length≤1048576) :
 zy (EV prog wX) 37 [.agg (g.enc.map .t),.t (.list 3 (zu.zC ns)),.t (.str name),.t (.list 1 (strs vs))]=some (.t (.str (tu g ns name vs))):=by
 have d1:=PN g hB name;have d2:=PQ vs hvl (fun s hs=>by have:=hvb s hs;omega);unfold tu;obtain⟨a1,a2,a3⟩:=uX vs;have hrl:(yS [] vs).length≤1048576:=by have:=uF vs [];simp only[List.length_nil]at this;omega
 obtain⟨b1,b2⟩:=qa hB name;have hvv:=uX (yd g.packs name);have hvL:(xo g name).length≤1048576:=by have:=uF (yd g.packs name) [];unfold xo;simp only[List.length_nil]at this;omega
 have hvB:∀ s∈xo g name,s.length≤1048576:=fun s hs=>by
  have:=hvv.2.2 s hs;obtain⟨p,hp,rfl⟩:=List.mem_map.1 this;have:=hB.len.2.2 p (List.mem_filter.1 hp).1;simp only[zh.zX]at this;omega
 cases hlast:(xo g name).getLast? with
 | none =>
  have e:=bL hlast;rw[e,show strs []=[] from rfl]at d1;clear hB hb hvb hvB;obtain⟨top,packs⟩:=g;simp only[zB.enc,List.map_cons,List.map_nil]at d1 ⊢;apply zw;refine zx rfl func37 rfl (by kernel_rfl) ?_;unfold Tryz.f37;simp (disch:=(try simp only[LL]);omega) only[↓GO,↓wx,GA,GX,ren,zk,za,refs,z8,cst,zo,isC,bin,una,z7,zd,blt,asArg,zg,zc,zf,z6,zr,unN,ze,zm,zb,GS2,simprocAttr,GZ,d1,d2,xm,zA]
 | some low =>
  obtain⟨h1,h2⟩:=xR hlast;have hlm:=List.mem_of_getElem? h1;have L:=Pw ns hl hb name low hn (hvB low hlm) (hvv.1 low hlm) (xo g name) h1 h2 hvL (yS [] vs) hrl (fun s hs=>hvb s (a3 s hs)) a1 (yS [] vs).length (Nat.le_refl _);rw[S0 ns name low (hvv.1 low hlm) (yS [] vs) a1 a2 _ (Nat.le_refl _),List.take_length]at L;simp only;rw[Ye];have c1:(((xo g name).length:Int)==0)=false:=by rw[beq_eq_false_iff_ne];omega
  clear hB hb hvb hvB;obtain⟨top,packs⟩:=g;simp only[zB.enc,List.map_cons,List.map_nil]at d1 ⊢;generalize xo ⟨top,packs⟩ name=hv at *;generalize yS [] vs=l at *
  cases hx:(l.filter (okV ns name low)).getLast? with
  | none =>
   rw[hx]at L;simp only[Option.getD_none]at L ⊢;apply zw;refine zx rfl func37 rfl (by kernel_rfl) ?_;unfold Tryz.f37;simp (disch:=(try simp only[LL]);omega) only[↓GO,↓wx,GA,GX,ren,zk,za,refs,z8,cst,zo,isC,bin,una,z7,zd,blt,asArg,zg,zc,zf,z6,zr,unN,ze,zm,zb,GS2,simprocAttr,GZ,d1,d2,c1,L,zn,zi,xm,zA]
  | some s =>
   rw[hx]at L;simp only[Option.getD_some]at L ⊢;apply zw;refine zx rfl func37 rfl (by kernel_rfl) ?_;unfold Tryz.f37;simp (disch:=(try simp only[LL]);omega) only[↓GO,↓wx,GA,GX,ren,zk,za,refs,z8,cst,zo,isC,bin,una,z7,zd,blt,asArg,zg,zc,zf,z6,zr,unN,ze,zm,zb,GS2,simprocAttr,GZ,d1,d2,c1,L,zn,zi,xm,zA]
theorem Pv (ns:List zu)(hl:ns.length≤1048576)(hb:∀ n∈ns,n.zX≤1048576)(name low:Str)(hn:name.length≤1048576)(hlow:low.length≤1048576)(l:List Str)(hll:l.length≤1048576)(hlb:∀ s∈l,s.length≤1048576):∀ (rest pre:List Str) (b:Str),l=pre++rest →
 EV prog wX (.loop 42 1018 0 [.t (.list 3 (zu.zC ns)),.t (.str name),.t (.str b),.ptr 0 0 0,.t (.list 1 (strs l)),.t (.int .i64 (pre.length:Int))] [.vs 4 [(zq low).1.enc.map .t]])
  = some (.loop (.exit 0) [.t (.str (mdR ns name low b rest))] [])
 | [],pre,b,h=>by
  have c:decide ((pre.length:Int)<(l.length:Int))=false:=by simp[h]
  rw[mdR];generalize (zq low).1=v;simp only[Ver.enc,List.map_cons,List.map_nil];refine zj func42 rfl rfl ?_;simp (disch:=(try simp only[LL]);omega) only[↓GO,↓wx,GA,GX,ren,zk,za,refs,z8,cst,zo,isC,bin,una,z7,zd,blt,asArg,zg,zc,zf,z6,zr,unN,ze,zm,zb,GS2,simprocAttr,GZ,c,zn,xm,zA]
 | s :: rest, pre, b, h => by
  have c:decide ((pre.length:Int)<(l.length:Int))=true:=by simp[h];omega
  have hget:(strs l)[pre.length]? = some [.str s]:=xj (by rw[h];simp);have hlen:pre.length+rest.length+1≤l.length:=by rw[h];simp;omega
  have hsb:=hlb s (by rw[h];simp);have d1:=mP (rC s (by omega));have d2:=mP (iP (zq s).1 (zq low).1 (yz s (by omega)).1 (yz low (by omega)).1);have d3:=mP (Sw ns hl hb name s hn hsb);rw[show (ns.any fun n=>afT n name s)=gj ns name s from rfl]at d3;unfold rvT at d1;have IH:=fun b'=>Pv ns hl hb name low hn hlow l hll hlb rest (pre++[s]) b' (by rw[h];simp)
  rw[show ((pre++[s]).length:Int)=(pre.length:Int)+1 by simp]at IH;rw[mdR];unfold okV;rw[show wg s low=tY (zq s).1 (zq low).1 from rfl];generalize tY (zq s).1 (zq low).1=z at *;generalize (zq s).2=oks at *;generalize (zq s).1=vs at *;generalize (zq low).1=vl at *;clear h hb hlb;simp only[Ver.enc,List.map_cons,List.map_nil]at d1 d2 IH ⊢
  cases q1:decide (z≥0) with
  | false =>
   have IH1:=IH b;simp only[Bool.false_and,cond_false];generalize mdR ns name low b rest=Z at *;refine zj func42 rfl rfl ?_;simp (disch:=(try simp only[LL]);omega) only[↓GO,↓wx,GA,GX,ren,zk,za,refs,z8,cst,zo,isC,bin,una,z7,zd,blt,asArg,zg,zc,zf,z6,zr,unN,ze,zm,zb,GS2,simprocAttr,GZ,c,hget,d1,d2,q1,zn,zi,xm,zA,IH1]
  | true =>
   cases q2:gj ns name s with
   | true =>
    rw[q2]at d3;have IH1:=IH b;simp only[Bool.not_true,Bool.and_false,cond_false];generalize mdR ns name low b rest=Z at *;refine zj func42 rfl rfl ?_;simp (disch:=(try simp only[LL]);omega) only[↓GO,↓wx,GA,GX,ren,zk,za,refs,z8,cst,zo,isC,bin,una,z7,zd,blt,asArg,zg,zc,zf,z6,zr,unN,ze,zm,zb,GS2,simprocAttr,GZ,c,hget,d1,d2,d3,q1,zn,zi,xm,zA,IH1]
   | false =>
    rw[q2]at d3;have IH1:=IH s;simp only[Bool.not_false,Bool.and_true,cond_true];generalize mdR ns name low s rest=Z at *;refine zj func42 rfl rfl ?_;simp (disch:=(try simp only[LL]);omega) only[↓GO,↓wx,GA,GX,ren,zk,za,refs,z8,cst,zo,isC,bin,una,z7,zd,blt,asArg,zg,zc,zf,z6,zr,unN,ze,zm,zb,GS2,simprocAttr,GZ,c,hget,d1,d2,d3,q1,zn,zi,xm,zA,IH1]
theorem c_mdR (g:zB)(hB:GB g)(ns:List zu)(hl:ns.length≤1048576)(hb:∀ n∈ns,n.zX≤1048576)(name:Str)(hn:name.length≤1048576)(vs:List Str)(hvl:vs.length≤1048576)(hvb:∀ s∈vs,s.length≤1048576) :
 zy (EV prog wX) 42 [.agg (g.enc.map .t),.t (.list 3 (zu.zC ns)),.t (.str name),.t (.list 1 (strs vs))]=some (.t (.str (tu g ns name vs))):=by
 have d1:=c_vsR g hB name;have d2:=PO vs hvl (fun s hs=>by have:=hvb s hs;omega);unfold tu;obtain⟨a1,a2,a3⟩:=uX vs;have hrl:(yS [] vs).length≤1048576:=by have:=uF vs [];simp only[List.length_nil]at this;omega
 have hvv:=uX (yd g.packs name);have hvL:(xo g name).length≤1048576:=by
  obtain⟨b1,b2⟩:=qa hB name;have:=uF (yd g.packs name) [];unfold xo;simp only[List.length_nil]at this;omega
 have hvB:∀ s∈xo g name,s.length≤1048576:=fun s hs=>by
  have:=hvv.2.2 s hs;obtain⟨p,hp,rfl⟩:=List.mem_map.1 this;have:=hB.len.2.2 p (List.mem_filter.1 hp).1;simp only[zh.zX]at this;omega
 cases hlast:(xo g name).getLast? with
 | none =>
  have e:=bL hlast;rw[e,show strs []=[] from rfl]at d1;clear hB hb hvb hvB;obtain⟨top,packs⟩:=g;simp only[zB.enc,List.map_cons,List.map_nil]at d1 ⊢;apply zw;refine zx rfl func42 rfl (by kernel_rfl) ?_;unfold Tryz.f42;simp (disch:=(try simp only[LL]);omega) only[↓GO,↓wx,GA,GX,ren,zk,za,refs,z8,cst,zo,isC,bin,una,z7,zd,blt,asArg,zg,zc,zf,z6,zr,unN,ze,zm,zb,GS2,simprocAttr,GZ,d1,d2,xm,zA]
 | some low =>
  obtain⟨h1,h2⟩:=xR hlast;have hlm:=List.mem_of_getElem? h1;have hgl:=xj h1;have hlb:=hvB low hlm;have d3:=mP (rC low (by omega));unfold rvT at d3;have L:=Pv ns hl hb name low hn hlb (yS [] vs) hrl (fun s hs=>hvb s (a3 s hs)) (yS [] vs) [] [] rfl;simp only[List.length_nil,Int.natCast_zero]at L;have c1:(((xo g name).length:Int)==0)=false:=by rw[beq_eq_false_iff_ne];omega
  have e2:((xo g name).length:Int) - 1=(((xo g name).length - 1:Nat):Int):=by omega
  clear hB hb hvb hvB;obtain⟨top,packs⟩:=g;simp only[zB.enc,List.map_cons,List.map_nil]at d1 ⊢;generalize xo ⟨top,packs⟩ name=hv at *;generalize yS [] vs=l at *;generalize mdR ns name low [] l=Z at *;generalize hv.length - 1=hk at *;generalize (zq low).2=okl at *;generalize (zq low).1=vl at *;simp only[Ver.enc,List.map_cons,List.map_nil]at d3 L;apply zw;refine zx rfl func42 rfl (by kernel_rfl) ?_;unfold Tryz.f42;simp (disch:=(try simp only[LL]);omega) only[↓GO,↓wx,GA,GX,ren,zk,za,refs,z8,cst,zo,isC,bin,una,z7,zd,blt,asArg,zg,zc,zf,z6,zr,unN,ze,zm,zb,GS2,simprocAttr,GZ,d1,d2,d3,c1,e2,hgl,L,zn,zi,xm,zA]
theorem Y0 (g:zB)(ns:List zu):Ws (xw g ns):=by
 cases hg:yj g with
 | false=>rw[mG ns hg];exact List.Pairwise.nil
 | true=>exact (lA hg).1.filter _
theorem VL (g:zB)(ns:List zu):(xw g ns).length≤g.top.length:=List.length_filter_le _ _
theorem cE (g:zB)(ns:List zu)(h:xw g ns≠[]):wS g ns≠[]:=by
 cases hg:yj g with
 | false=>exact absurd (mG ns hg) h
 | true =>
  obtain⟨k,hk⟩:=List.exists_mem_of_ne_nil _ h;obtain⟨_,h2⟩:=List.mem_filter.1 hk;unfold oh vS at h2;rw[hg,cond_true,List.any_eq_true]at h2;obtain⟨r,h3,h4⟩:=h2;obtain⟨p,h5⟩:=mb _ _ r h3;obtain⟨h6,rfl,_⟩:=sw h5;unfold ql at h4;rw[rJ (tF hg p h6).1,List.any_eq_true]at h4;obtain⟨n,h7,h8⟩:=h4;have hm:(keyOf p++[32])++n.text∈wS g ns:=by
   unfold wS xY;rw[hg,cond_true];exact List.mem_flatMap.2 ⟨p,h6,List.mem_map.2 ⟨n,List.mem_filter.2 ⟨h7,h8⟩,rfl⟩⟩
  exact List.ne_nil_of_mem hm
theorem Q0 {g:zB}{ns:List zu}{name:Str}{vs:List Str}(h:tu g ns name vs≠[]):∃ low,(xo g name).getLast? = some low∧isV low=true∧tu g ns name vs∈vs∧isV (tu g ns name vs)=true∧wg (tu g ns name vs) low≥0∧gj ns name (tu g ns name vs)=false:=by
 cases hl:(xo g name).getLast? with
 | none =>
  have e:tu g ns name vs=[]:=by unfold tu;rw[hl]
  exact absurd e h
 | some low =>
  have e:tu g ns name vs=(((yS [] vs).filter (okV ns name low)).getLast?).getD []:=by
   have e1:tu g ns name vs=mdR ns name low [] (yS [] vs):=by unfold tu;rw[hl]
   rw[e1,Ye]
  obtain⟨a1,_,a3⟩:=uX vs;have hlow:isV low=true:=by
   obtain⟨b1,_,_⟩:=uX (yd g.packs name);exact b1 low (List.mem_of_getLast? hl)
  cases hf:((yS [] vs).filter (okV ns name low)).getLast? with
  | none=>rw[hf]at e;exact absurd e h
  | some v =>
   rw[hf,Option.getD_some]at e;obtain⟨c1,c2⟩:=List.mem_filter.1 (List.mem_of_getLast? hf);unfold okV at c2;rw[Bool.and_eq_true,decide_eq_true_eq]at c2;rw[e];refine⟨low,rfl,hlow,a3 v c1,a1 v c1,c2.1,?_⟩;simpa using c2.2
def oneG (name v:Str):zB:=⟨[],[⟨name,v,[],[],false,[]⟩]⟩
theorem Ve {ns:List zu}{name v:Str}(h:gj ns name v=false):wS (oneG name v) ns=[]:=by
 unfold wS xY oneG
 cases yj ⟨[],[⟨name,v,[],[],false,[]⟩]⟩ with
 | false=>rfl
 | true =>
  have e:(ns.filter fun n=>afT n name v)=[]:=by
   rw[List.filter_eq_nil_iff];intro n hn hc;unfold gj at h;rw[show (ns.any fun n=>afT n name v)=true from List.any_eq_true.2 ⟨n,hn,hc⟩]at h
   cases h
  simp[e]
def YF (ns:List zu):Prop:=ns.length≤3∧∀ x∈ns,smN x
theorem YF.b {ns:List zu}(h:YF ns):ns.length≤1048576∧∀ n∈ns,n.zX≤1048576:=⟨by have:=h.1;omega,fun n hn=>by have:=h.2 n hn;unfold smN at this;omega⟩
theorem xD {α β:Type}(f:α→List β)(k:Nat):∀ l:List α,(∀ x∈l,(f x).length≤k)→(l.flatMap f).length≤l.length*k
 | [],_=>by simp
 | x::r,h=>by
  have h1:=h x (by simp);have h2:=xD f k r fun y hy=>h y (by simp[hy])
  rw[List.flatMap_cons,List.length_append,List.length_cons,Nat.succ_mul];omega
theorem Y6 (g:zB)(ns:List zu):(wS g ns).length≤g.packs.length*ns.length:=by
 unfold wS
 cases yj g with
 | false=>simp
 | true =>
  refine xD _ _ _ fun p _=>?_
  rw[List.length_map];exact List.length_filter_le _ _
theorem fm (X:List Str)(cap:Option Nat):yk [.ts 1 (strs X)] (.sl 0 0 X.length cap)=some (.t (.list 1 (strs X)),[.fz 1 (strs X)]):=by
 have t1:(strs X).take X.length=strs X:=List.take_of_length_le (by rw[zn];exact Nat.le_refl _);simp only[yk,List.getElem?_cons_zero,List.set_cons_zero,List.drop_zero,t1]
theorem R4 (g:zB)(hB:GB g)(ns:List zu)(hn:YF ns):zy (EV prog wX) 33 [.agg (g.enc.map .t),.t (.list 3 (zu.zC ns))]=some (.t (.list 1 (strs (wS g ns)))):=by
 unfold wS
 cases hg:yj g with
 | false=>exact mP (di rfl rfl (Te g hB ns hg) (h2:=[]) rfl)
 | true =>
  obtain⟨cap,h⟩:=VJ g hB ns hn.b.1 hn.b.2 hg;exact mP (di rfl rfl h (fm _ cap))
theorem c_blF (g:zB)(hB:GB g)(ns:List zu)(hn:YF ns):zy (EV prog wX) 35 [.agg (g.enc.map .t),.t (.list 3 (zu.zC ns))]=some (.t (.list 1 (strs (xw g ns)))):=by
 obtain⟨cap,h⟩:=c_blI g hB ns hn.b.1 hn.b.2;exact mP (di rfl rfl h (fm _ cap))
theorem ZX (code:List Int)(hb:okB code):zy (EV prog wX) 5 [.t (.list 1 (xl code))]=some (.t (.bool true)):=by
 obtain⟨n,hn,d2⟩:=T8 code hb;obtain⟨g,ns,hg,hn1,hn2,d3⟩:=Z4 code hb;obtain⟨h,ms,hh,hm1,hm2,d4⟩:=Ta code hb;obtain⟨m,ks,name,vs,hm,hk1,hk2,hnm,hv1,hv2,d5⟩:=T9 code hb;have d2:=mP d2;have d3:=mP d3;have d4:=mP d4;have d5:=mP d5;have hns:YF ns:=⟨hn1,hn2⟩;have hms:YF ms:=⟨hm1,hm2⟩;have hks:YF ks:=⟨hk1,hk2⟩;have d1:=mP (PZ code);have hlen:=hb.1;rw[show decide ((code.length:Int) > 1048576)=false by apply decide_eq_false;omega]at d1;have hBg:GB g:=by have:=hg.2;unfold GB;omega
 have hBh:GB h:=by have:=hh.2;unfold GB;omega
 have hBm:GB m:=by have:=hm.2;unfold GB;omega
 have hBn:n.zX≤1048576:=by unfold smN at hn;omega
 have a1:=R4 g hBg ns hns;have a2:=mP (c_auR g hBg ns hns.b.1 hns.b.2);have hX:=Y6 g ns;have hXl:(wS g ns).length≤1048576:=by
  have h1:=hg.1;have h2:g.packs.length*ns.length≤7*3:=Nat.mul_le_mul h1 hn1;omega
 have a3:=mP (Wa (wS g ns) hXl);have b1:=c_blF h hBh ms hms;have b2:=mP (c_blR h hBh ms hms.b.1 hms.b.2);have hYl:=VL h ms;have hht:=hBh.len;have b3:=mP (Wa (xw h ms) (by omega));have b4:=mP (T3 (xw h ms) (by omega) (Y0 h ms));have b5:=R4 h hBh ms hms;have b6:=cE h ms;have e1:=c_mdI m hBm ks hks.b.1 hks.b.2 name (by omega) vs (by omega) (fun s hs=>by have:=hv2 s hs;omega);have e2:=c_mdR m hBm ks hks.b.1 hks.b.2 name (by omega) vs (by omega) (fun s hs=>by have:=hv2 s hs;omega);have n1:=mP (PW n hBn);have n2:=mP (PV n hBn);have f1:decide (((xw h ms).length:Int) > (h.top.length:Int))=false:=by apply decide_eq_false;omega
 have f2:decide (((xw h ms).length:Int) > 0)=true→(((wS h ms).length:Int)==0)=false:=fun hq=>by
  have h1:=of_decide_eq_true hq;have h2:xw h ms≠[]:=fun e=>by rw[e]at h1;simp at h1
  have h3:=b6 h2;rw[beq_eq_false_iff_ne];intro e;exact h3 (List.eq_nil_of_length_eq_zero (by omega))
 have l1:=zn (xw h ms);have l2:=zn (wS h ms);have hmend:=Q0 (g:=m) (ns:=ks) (name:=name) (vs:=vs);have v1:=PN m hBm name;generalize w8 n=ok at *;generalize wS g ns=X at *;generalize wS h ms=XH at *;generalize xw h ms=Y at *;clear hX hXl hYl hht b6 hg hh hm hBg hBh hBn hns hms hn hn1 hn2 hm1 hm2;have fin:∀ v:Str,v=tu m ks name vs→zy (EV prog wX) 5 [.t (.list 1 (xl code))]=some (.t (.bool true)):=fun v hv=>by
  rw[← hv]at e1 e2 hmend
  by_cases hv0:v=[]
  · have q0:(v==[])=true:=by rw[hv0];rfl
    clear hmend hv hk1 hk2 hks hBm hv1 hv2 hnm v1 hv0 hb hlen;obtain⟨top,ps⟩:=g;obtain⟨top',ps'⟩:=h;obtain⟨top2,ps2⟩:=m;obtain⟨nn,nr,nt⟩:=n;simp only[zB.enc,zu.enc,List.map_cons,List.map_nil]at d2 d3 d4 d5 a1 a2 b1 b2 b5 e1 e2 n1 n2 f1 ⊢;generalize strs X=SX at *;generalize strs XH=SXH at *;generalize strs Y=SY at *
    cases q:decide ((Y.length:Int) > 0) with
    | false =>
     clear f2;apply zw;refine zx rfl func5 rfl (by kernel_rfl) ?_;unfold Tryz.f5;simp (maxSteps:=1000000) (disch:=(try simp only[LL]);omega) only[↓GO,↓wx,GA,GX,ren,zk,za,refs,z8,cst,zo,isC,bin,una,z7,zd,blt,asArg,zg,zc,zf,z6,zr,unN,ze,zm,zb,GS2,simprocAttr,zH,zI,yU,yN,yQ,yP,yV,gh1,yM,yC,yG,zU,mkO,yw,yp,yq,mvC,unO,y7,yT,yO,yK,zO,yL,yJ,y9,oc,oTs,oT,zT,zT.rowTs,yF,isL,E.BX,GZ,d1,d2,d3,d4,d5,a1,a2,a3,b1,b2,b3,b4,e1,e2,n1,n2,f1,l1,q,q0,zn,bne,Bool.not_true,Bool.not_false,beq_self_eq_true,zA]
    | true =>
     have f3:=f2 q;clear f2;apply zw;refine zx rfl func5 rfl (by kernel_rfl) ?_;unfold Tryz.f5;simp (maxSteps:=1000000) (disch:=(try simp only[LL]);omega) only[↓GO,↓wx,GA,GX,ren,zk,za,refs,z8,cst,zo,isC,bin,una,z7,zd,blt,asArg,zg,zc,zf,z6,zr,unN,ze,zm,zb,GS2,simprocAttr,zH,zI,yU,yN,yQ,yP,yV,gh1,yM,yC,yG,zU,mkO,yw,yp,yq,mvC,unO,y7,yT,yO,yK,zO,yL,yJ,y9,oc,oTs,oT,zT,zT.rowTs,yF,isL,E.BX,GZ,d1,d2,d3,d4,d5,a1,a2,a3,b1,b2,b3,b4,b5,e1,e2,n1,n2,f1,f3,l1,l2,q,q0,zn,bne,Bool.not_true,Bool.not_false,beq_self_eq_true,zA]
  · have q0:(v==[])=false:=by rw[beq_eq_false_iff_ne];exact hv0
    obtain⟨low,h1,h2,h3,h4,h5,h6⟩:=hmend hv0;have hvl:v.length≤301:=hv2 v h3;obtain⟨k1,k2⟩:=xR h1;obtain⟨_,vb2⟩:=qa hBm name;have hlowl:low.length≤1048700:=by
     obtain⟨_,_,s3⟩:=uX (yd m.packs name);exact vb2 low (s3 low (List.mem_of_getLast? h1))
    have r1:=mP (od low hlowl);have r2:=mP (od v (by omega));have r3:=mP (Wg (zq v).1 (zq low).1 (yz v (by omega)).1 (yz low hlowl).1);have h5':decide (om (zq v).1 (zq low).1≥0)=true:=by
     rw[nK (zZ h4).2.2.1 (zZ h2).2.2.1];exact decide_eq_true h5
    have r4:=mP (ON vs v (by omega) h3);have hBo:GB (oneG name v):=by
     unfold GB zB.zX oneG;simp only[zh.yr,zh.zX,List.length_nil,List.length_cons,zN.yr,ya];omega
    have o1:=mP (iN (oneG name v) hBo);have o2:=R4 (oneG name v) hBo ks hks;rw[Ve h6]at o2;unfold rvT at r1 r2;rw[show (zq v).2=true from h4]at r2;have hvsl:=zn (xo m name);have hget:(strs (xo m name))[(xo m name).length - 1]? = some [.str low]:=xj k1;have ei:(((xo m name).length:Int) - 1).toNat=(xo m name).length - 1:=by omega
    have ei2:((xo m name).length:Int) - 1=(((xo m name).length - 1:Nat):Int):=by omega
    have ci:decide ((0:Int)≤((xo m name).length:Int) - 1)=true:=by apply decide_eq_true;omega
    have ci2:decide (((xo m name).length:Int) - 1<((xo m name).length:Int))=true:=by apply decide_eq_true;omega
    have hvtl:(xo m name).length≤1048576:=by
     have:=uF (yd m.packs name) [];have:=j9 m.packs name;have:=hBm.len.1;unfold xo;simp only[List.length_nil]at *;omega
    unfold oneG at o1 o2;generalize yj ⟨[],[⟨name,v,[],[],false,[]⟩]⟩=og at *;generalize xo m name=W at *;generalize om (zq v).1 (zq low).1=cw at *;generalize (zq v).1=va at *;generalize (zq low).1=vl at *;generalize (zq low).2=vo at *;clear hmend hv hk1 hk2 hks hBm hv1 hv2 hnm hv0 hb hlen h1 h2 h3 h4 h5 h6 k1 vb2 hBo hvl hlowl;obtain⟨top,ps⟩:=g;obtain⟨top',ps'⟩:=h;obtain⟨top2,ps2⟩:=m;obtain⟨nn,nr,nt⟩:=n;simp only[zB.enc,zu.enc,zh.enc,zh.zC,Ver.enc,List.map_cons,List.map_nil,show strs []=[] from rfl,show zN.zC []=[] from rfl]at d2 d3 d4 d5 a1 a2 b1 b2 b5 e1 e2 n1 n2 f1 v1 r1 r2 r3 o1 o2 ⊢;generalize strs X=SX at *;generalize strs XH=SXH at *;generalize strs Y=SY at *;generalize strs W=SW at *
    cases q:decide ((Y.length:Int) > 0) with
    | false =>
     clear f2
     cases og <;>
     · apply zw;refine zx rfl func5 rfl (by kernel_rfl) ?_;unfold Tryz.f5;simp (maxSteps:=1000000) (disch:=(try simp only[LL]);omega) only[↓GO,↓wx,GA,GX,ren,zk,za,refs,z8,cst,zo,isC,bin,una,z7,zd,blt,asArg,zg,zc,zf,z6,zr,unN,ze,zm,zb,GS2,simprocAttr,zH,zI,yU,yN,yQ,yP,yV,gh1,yM,yC,yG,zU,mkO,yw,yp,yq,mvC,unO,y7,yT,yO,yK,zO,yL,yJ,y9,oc,oTs,oT,zT,zT.rowTs,yF,isL,E.BX,GZ,d1,d2,d3,d4,d5,a1,a2,a3,b1,b2,b3,b4,e1,e2,n1,n2,f1,l1,q,q0,v1,r1,r2,r3,r4,o1,o2,h5',hvsl,hget,ei,ei2,ci,ci2,zn,bne,Bool.not_true,Bool.not_false,beq_self_eq_true,List.length_nil,zi,zA]
    | true =>
     have f3:=f2 q;clear f2
     cases og <;>
     · apply zw;refine zx rfl func5 rfl (by kernel_rfl) ?_;unfold Tryz.f5;simp (maxSteps:=1000000) (disch:=(try simp only[LL]);omega) only[↓GO,↓wx,GA,GX,ren,zk,za,refs,z8,cst,zo,isC,bin,una,z7,zd,blt,asArg,zg,zc,zf,z6,zr,unN,ze,zm,zb,GS2,simprocAttr,zH,zI,yU,yN,yQ,yP,yV,gh1,yM,yC,yG,zU,mkO,yw,yp,yq,mvC,unO,y7,yT,yO,yK,zO,yL,yJ,y9,oc,oTs,oT,zT,zT.rowTs,yF,isL,E.BX,GZ,d1,d2,d3,d4,d5,a1,a2,a3,b1,b2,b3,b4,b5,e1,e2,n1,n2,f1,f3,l1,l2,q,q0,v1,r1,r2,r3,r4,o1,o2,h5',hvsl,hget,ei,ei2,ci,ci2,zn,bne,Bool.not_true,Bool.not_false,beq_self_eq_true,List.length_nil,zi,zA]
 exact fin _ rfl
theorem QL (code:List Int)(hc:∀ b∈code,0≤b∧b≤255):zy (EV prog wX) 5 [.t (.list 1 (xl code))]=some (.t (.bool true)):=by
 by_cases h:code.length≤1048576
 · exact ZX code ⟨h,hc⟩
 · have d1:=mP (PZ code);rw[show decide ((code.length:Int) > 1048576)=true by apply decide_eq_true;omega]at d1;apply zw;refine zx rfl func5 rfl (by kernel_rfl) ?_;unfold Tryz.f5;simp (maxSteps:=1000000) (disch:=(try simp only[LL]);omega) only[↓GO,↓wx,GA,GX,ren,zk,za,refs,z8,cst,zo,isC,bin,una,z7,zd,blt,asArg,zg,zc,zf,z6,zr,unN,ze,zm,zb,GS2,simprocAttr,zH,zI,yU,yN,yQ,yP,yV,gh1,yM,yC,yG,zU,mkO,yw,yp,yq,mvC,unO,y7,yT,yO,yK,zO,yL,yJ,y9,oc,oTs,oT,zT,zT.rowTs,yF,isL,E.BX,GZ,d1,zA]
theorem Tryz.own:ownKnob prog.godebug=none:=by kernel_rfl
theorem Tryz.kids:Kids prog (· < Tryz.prog.types.size):=kids_rows (by kernel_rfl) (by kernel_rfl)
theorem Tryz.full:∀ t e,t<Tryz.prog.types.size→Tryz.prog.underlying t=some (.slice e)→0<prog.cellsOf e:=slices_full_of prog (by kernel_rfl)
theorem Tw {cs:List T}(h:WT prog 22 cs):∃ bs:List Int,cs=[.list 1 (xl bs)]∧∀ b∈bs,0≤b∧b≤255:=by
 obtain⟨es,e1,e2,e3⟩:=h.UC Tryz.underlying22;have k0:prog.cellsOf 5=1:=by kernel_rfl
 have key:∀ es:List (List T),(∀ c∈es,WT prog 5 c)→∃ bs:List Int,es=xl bs∧∀ b∈bs,0≤b∧b≤255:=fun es=>by
  induction es with
  | nil=>exact fun _=>⟨[],rfl,fun b hb=>by simp at hb⟩
  | cons c es ih =>
   intro h;obtain⟨bs,a1,a2⟩:=ih fun c' hc=>h c' (by simp[hc])
   obtain⟨n,a3,a4⟩:=(h c (by simp)).Qf Tryz.underlying5;refine⟨n::bs,by simp[xl,a1,a3],fun b hb=>?_⟩;rcases List.mem_cons.1 hb with rfl|hb
   · simp[Lit.wf,IntKind.min,IntKind.max,IntKind.bits,IntKind.signed]at a4;omega
   · exact a2 b hb
 obtain⟨bs,a1,a2⟩:=key es e3;subst a1;exact⟨bs,by rw[e1,k0],a2⟩
theorem VK (g:Nat)(hl:∀ code:List Int,(∀ b∈code,0≤b∧b≤255)→zy (EV prog wX) g [.t (.list 1 (xl code))]=some (.t (.bool true)))(xs:List V)(h:WTA prog [22] xs) :
 EV prog wX (.call g xs [])=some (.call (.t (.bool true)) []):=by
 obtain⟨cs,v,vs,rfl,h1,h2,h3⟩:=h.UD;have:=h3.Qe;subst this;obtain⟨bs,rfl,hb⟩:=Tw h1;have e0:yi prog 22=false:=by kernel_rfl
 rw[e0]at h2;simp[zd]at h2;subst h2;have hq:=hl bs hb;unfold zy at hq
 split at hq
 · rename_i v he;cases hq;exact he
 · cases hq
end Go.Proofs.YtefkoljdebekdaaGreatDoor

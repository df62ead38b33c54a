/- Joined: W6 E22 J1 P1 V1 N1 V2 N0 N2 K1 K2 J2. Conditions: those of each lemma. -/
import Derived.Test.YtefkoljdebekdaaGreatDoorqA
import Derived.Test.YtefkoljdebekdaaGreatDoorCards
import Derived.Test.YtefkoljdebekdaaGreatDoorTie
import Derived.Test.YtefkoljdebekdaaGreatDoorqI
import Derived.WalkKit
import Derived.ProofKit
import Derived.OpenShut
import Derived.Deep.DeepHandedRow
import Derived.Lib.LaidTab
import Derived.Stop.LaidErr
import Derived.Test.YtefkoljdebekdaaGreatDoorqH
import Derived.Lib.SplitLaws
import Derived.Lib.ItoaMem
import Derived.Lib.AtoiAll
import Derived.Lib.Join
set_option linter.unusedVariables false
set_option linter.unusedSimpArgs false
set_option maxRecDepth 100000
namespace Go.Proofs.YtefkoljdebekdaaGreatDoor
open Go.ChangeShapes Go.WideShapes Go.ChangeAt Go.RowKit E
theorem star : "*" ++ "errors.errorString" = "*errors.errorString" := by decide
theorem rowE (u : TypeId) (h : Tryz.prog.typeName? 3 u = some "*errors.errorString") : u = 259 :=
 typeName_ptr_named (nm := "errors.errorString") (by rw [star]; kernel_rfl) (by kernel_rfl) (by decide) u (by rw [star]; exact h)
theorem Zc {W : World} (hS : W.ShapedOpen Tryz.prog) (h1 : ∃ r, laidMet Tryz.prog (("internal/strconv.uint64pow10", Rows.laid_internal_strconv_uint64pow10) :: r) W)
 (h2 : ∃ r, laidMet Tryz.prog (("strconv.ErrRange", Rows.laid_strconv_ErrRange) :: r) W) (h3 : ∃ r, laidMet Tryz.prog (("strconv.ErrSyntax", Rows.laid_strconv_ErrSyntax) :: r) W) : eP W := by
 obtain⟨r1,h1⟩:=h1
 obtain⟨r2,h2⟩:=h2
 obtain⟨r3,h3⟩:=h3
 refine ⟨Lib.tabIs_of_head (k := .u64) (zs := Lib.pow10Tab) (rest := r1) (show Tryz.prog.globalNamed "internal/strconv.uint64pow10" = some 5 by kernel_rfl) (show (Tryz.prog.globals[5]?).map (·.type) = some 268 by kernel_rfl)
  Tryz.underlying268 Tryz.underlying212 (by kernel_rfl) (by kernel_rfl) h1,⟨?_,?_⟩,?_,trivial⟩
 · obtain ⟨a, s, q1, _⟩ := laid_sentinel (nm := "*errors.errorString") h3 (show Tryz.prog.globalNamed "strconv.ErrSyntax" = some 1 by kernel_rfl) (show (Tryz.prog.globals[1]?).map (·.type) = some 163 by kernel_rfl) Tryz.underlying163 rowE
    Tryz.underlying259 Tryz.underlying261 rfl rfl Tryz.underlying9 (by kernel_rfl) (by kernel_rfl)
   exact⟨_,_,q1⟩
 · obtain ⟨a, s, q1, _⟩ := laid_sentinel (nm := "*errors.errorString") h2 (show Tryz.prog.globalNamed "strconv.ErrRange" = some 2 by kernel_rfl) (show (Tryz.prog.globals[2]?).map (·.type) = some 163 by kernel_rfl) Tryz.underlying163 rowE
    Tryz.underlying259 Tryz.underlying261 rfl rfl Tryz.underlying9 (by kernel_rfl) (by kernel_rfl)
   exact⟨_,_,q1⟩
 · exact Tryz.bj.s1_3 W hS
end Go.Proofs.YtefkoljdebekdaaGreatDoor
/- An open call's answer, given away: the same call with frozen values. Conditions: those of each lemma. -/
namespace Go.Proofs.YtefkoljdebekdaaGreatDoor.E
variable {P:Program} {pol:Pol}
theorem EV_un {req:Req}{r:wk}(h:EV P pol req=some r):step P pol (EV P pol) req=some r:=by
 obtain⟨n,hn⟩:=Qx h
 cases n with
 | zero=>simp[it]at hn
 | succ n=>exact (nj req).mono _ _ (fun req r h=>Nn h) r hn
structure Sim (mp:Nat→Option Nat) (h hp:Heap):Prop where
 row:∀ r r',mp r=some r'→hp[r']? = some (zk mp (h[r]?.getD .dead))
 inj:∀ r s k,mp r=some k→mp s=some k→r=s
theorem Pv (mp:Nat→Option Nat)(v:V):gvC (ren mp v)=gvC v:=by
 cases v with
 | sl r off len cap=>simp only[ren];split<;>rfl
 | ptr r i j=>simp only[ren];split<;>rfl
 | _=>simp only[ren,gvC]
theorem bw (mp:Nat→Option Nat):∀ vs:List V,rT (ren.rens mp vs)=rT vs
 | []=>by simp only[ren.rens]
 | v::vs=>by simp only[ren.rens,rT,Pv,bw mp vs]
theorem XD (mp:Nat→Option Nat):∀ es:List (List V),gvE (es.map (ren.rens mp))=gvE es
 | []=>rfl
 | c::cs=>by simp only[List.map_cons,gvE,bw,XD mp cs]
theorem ax (mp:Nat→Option Nat):∀ vs:List V,wH (ren.rens mp vs)=wH vs
 | []=>by simp only[ren.rens]
 | v::vs=>by
  simp only[ren.rens,wH,ax mp vs]
  cases v with
  | sl r off len cap=>simp only[ren];split<;>rename_i h<;>revert h<;>split<;>simp_all
  | ptr r i j=>simp only[ren];split<;>rename_i h<;>revert h<;>split<;>simp_all
  | _=>simp only[ren]
theorem Sim.set {mp:Nat→Option Nat}{h hp:Heap}(hS:Sim mp h hp){r r':Nat}(hr:mp r=some r')(hl:r<h.length){b:Blk}(hb:zk mp b=b):Sim mp (h.set r b) (hp.set r' b):=by
 refine⟨fun s s' hs=>?_,hS.inj⟩
 have h1:=hS.row s s' hs
 by_cases e:s=r
 · subst e
   rw[hr]at hs
   cases hs
   have hlt:r'<hp.length:=by
    rcases Nat.lt_or_ge r' hp.length with h2 | h2
    · exact h2
    · rw[List.getElem?_eq_none h2]at h1;cases h1
   rw[List.getElem?_set_self hlt,List.getElem?_set_self hl,Option.getD_some,hb]
 · have e' : r' ≠ s' := fun e2 => e (by subst e2; exact hS.inj _ _ _ hs hr)
   rw[List.getElem?_set_ne e',List.getElem?_set_ne (fun e2=>e e2.symm),h1]
theorem Px {mp:Nat→Option Nat}{h hp:Heap}(hS:Sim mp h hp){r off len:Nat}{cap:Option Nat}{x:V}{hp':Heap}(hg:yE hp (ren mp (.sl r off len cap))=some (x,hp')):∃ h',yE h (.sl r off len cap)=some (x,h')∧Sim mp h' hp':=by
 simp only[ren]at hg
 cases hm:mp r with
 | none=>simp[hm,yE]at hg
 | some r' =>
  have h1:=hS.row r r' hm
  simp only[hm,yE,h1]at hg ⊢
  cases hb:h[r]? with
  | none=>simp[hb,zk]at hg
  | some b =>
   have hl:r<h.length:=by
    rcases Nat.lt_or_ge r h.length with h2 | h2
    · exact h2
    · rw[List.getElem?_eq_none h2]at hb;cases hb
   rw[hb]at hg
   simp only[Option.getD_some]at hg
   cases b with
   | ts sz es =>
    simp only[zk,Option.some.injEq,Prod.mk.injEq]at hg ⊢
    obtain⟨e1,e2⟩:=hg
    exact⟨_,⟨e1,rfl⟩,by rw[← e2];exact hS.set hm hl rfl⟩
   | fz sz es =>
    simp only[zk,Option.some.injEq,Prod.mk.injEq]at hg ⊢
    obtain⟨e1,e2⟩:=hg
    exact⟨_,⟨e1,rfl⟩,by rw[← e2];exact hS⟩
   | vs sz es =>
    simp only[zk,XD]at hg ⊢
    cases hq:gvE es with
    | none=>simp[hq]at hg
    | some xs =>
     simp only[hq,Option.some.injEq,Prod.mk.injEq]at hg ⊢
     obtain⟨e1,e2⟩:=hg
     exact⟨_,⟨e1,rfl⟩,by rw[← e2];exact hS.set hm hl rfl⟩
   | _=>simp[zk]at hg
mutual
theorem bJ {mp:Nat→Option Nat}:∀ (v:V) {h hp:Heap},Sim mp h hp→∀ {x:V} {hp':Heap},yE hp (ren mp v)=some (x,hp')→∃ h',yE h v=some (x,h')∧Sim mp h' hp'
 | .sl r off len cap,h,hp,hS,x,hp',hg=>Px hS hg
 | .ptr r i j,h,hp,hS,x,hp',hg=>by
  simp only[ren]at hg
  split at hg<;>simp[yE]at hg
 | .agg cs, h, hp, hS, x, hp', hg => by
  simp only[ren,yE]at hg ⊢
  cases hq:yE.gives hp (ren.rens mp cs) with
  | none=>simp[hq]at hg
  | some y =>
   obtain⟨ys,h2⟩:=y
   obtain⟨h',h3,h4⟩:=nD cs hS hq
   simp only[hq,h3,Option.some.injEq,Prod.mk.injEq]at hg ⊢
   obtain⟨e1,rfl⟩:=hg
   exact⟨h',⟨e1,rfl⟩,h4⟩
 | .tup cs, h, hp, hS, x, hp', hg => by
  simp only[ren,yE]at hg ⊢
  cases hq:yE.gives hp (ren.rens mp cs) with
  | none=>simp[hq]at hg
  | some y =>
   obtain⟨ys,h2⟩:=y
   obtain⟨h',h3,h4⟩:=nD cs hS hq
   simp only[hq,h3,Option.some.injEq,Prod.mk.injEq]at hg ⊢
   obtain⟨e1,rfl⟩:=hg
   exact⟨h',⟨e1,rfl⟩,h4⟩
 | .fn f cs, h, hp, hS, x, hp', hg => by
  simp only[ren,yE,ax]at hg ⊢
  cases hq:wH cs with
  | none=>simp[hq]at hg
  | some xs =>
   simp only[hq,Option.some.injEq,Prod.mk.injEq]at hg ⊢
   obtain⟨e1,rfl⟩:=hg
   exact⟨h,⟨e1,rfl⟩,hS⟩
 | .t x,h,hp,hS,y,hp',hg=>by
  simp only[ren,yE,Option.some.injEq,Prod.mk.injEq]at hg ⊢
  obtain⟨e1,rfl⟩:=hg
  exact⟨h,⟨e1,rfl⟩,hS⟩
 | .nil sz,h,hp,hS,y,hp',hg=>by
  simp only[ren,yE,Option.some.injEq,Prod.mk.injEq]at hg ⊢
  obtain⟨e1,rfl⟩:=hg
  exact⟨h,⟨e1,rfl⟩,hS⟩
 | .o x,h,hp,hS,y,hp',hg=>by simp[ren,yE]at hg
 | .und,h,hp,hS,y,hp',hg=>by simp[ren,yE]at hg
 | .bad,h,hp,hS,y,hp',hg=>by simp[ren,yE]at hg
theorem nD {mp:Nat→Option Nat}:∀ (vs:List V) {h hp:Heap},Sim mp h hp→∀ {xs:List V} {hp':Heap},yE.gives hp (ren.rens mp vs)=some (xs,hp')→∃ h',yE.gives h vs=some (xs,h')∧Sim mp h' hp'
 | [],h,hp,hS,xs,hp',hg=>by
  simp only[ren.rens,yE.gives,Option.some.injEq,Prod.mk.injEq]at hg ⊢
  obtain⟨e1,rfl⟩:=hg
  exact⟨h,⟨e1,rfl⟩,hS⟩
 | v :: vs, h, hp, hS, xs, hp', hg => by
  simp only[ren.rens,yE.gives]at hg ⊢
  cases hq:yE hp (ren mp v) with
  | none=>simp[hq]at hg
  | some y =>
   obtain⟨y,h2⟩:=y
   obtain⟨h3,k1,k2⟩:=bJ v hS hq
   simp only[hq,k1]at hg ⊢
   cases hq2:yE.gives h2 (ren.rens mp vs) with
   | none=>simp[hq2]at hg
   | some z =>
    obtain⟨zs,h4⟩:=z
    obtain⟨h5,k3,k4⟩:=nD vs k2 hq2
    simp only[hq2,k3,Option.some.injEq,Prod.mk.injEq]at hg ⊢
    obtain⟨e1,rfl⟩:=hg
    exact⟨h5,⟨e1,rfl⟩,k4⟩
end
theorem UQ (mp:Nat→Option Nat):∀ vs:List V,zm (ren.rens mp vs)=ren mp (zm vs)
 | []=>by simp only[ren.rens,zm,ren]
 | [v]=>by simp only[ren.rens,zm]
 | v::w::vs=>by simp only[ren.rens,zm,ren]
theorem QQ (ids:List Nat)(h:Heap):Sim (idx ids) h (ids.map fun r=>zk (idx ids) (h[r]?.getD .dead)):=by
 refine⟨fun r r' hr=>?_,fun r s k h1 h2=>?_⟩
 · rw[List.getElem?_map,lf hr];rfl
 · have e1 := lf h1
   rw[lf h2]at e1
   cases e1;rfl
theorem eg {g : Nat} {args : List V} {v x : V} {rows h2 : Heap} (he : pol.ext g args = none) (heO : pol.extO g args [] = none) (h : EV P pol (.callO false g args []) = some (.call v rows)) (hg : yE rows v = some (x, h2)) : zu (EV P pol) g args = some x := by
 have hs:=EV_un h
 have hc : step P pol (EV P pol) (.call g args []) = some (.call x []) := by
  simp only[step,he,heO]at hs ⊢
  cases hf:P.funcs[g]? with
  | none=>simp[hf]at hs
  | some fn =>
   simp only[hf]at hs ⊢
   cases hb:fn.body with
   | none=>simp[hb]at hs
   | some c =>
    simp only[hb]at hs ⊢
    split at hs
    · cases hs
    · rename_i hn
      rw[if_neg hn]
      simp only[List.length_nil]at hs ⊢
      have fin:∀ (e':Env) (h':Heap),oL false 0 (vM P e' h' fn.results.toList) h'=some (.call v rows)→(match vM P e' h' fn.results.toList with
       | some vs=>match yE h' (zm vs) with
        | some (v,h'')=>some (wk.call v (h''.take 0))
        | none=>none
       | none=>none)=some (.call x []):=fun e' h' hr=>by
       cases hv:vM P e' h' fn.results.toList with
       | none=>simp[hv,oL]at hr
       | some vs =>
        simp only[hv,oL,Bool.false_eq_true,if_false,Option.some.injEq,wk.call.injEq]at hr ⊢
        obtain⟨e1,e2⟩:=hr
        unfold yK at e1 e2
        simp only at e1 e2
        rw[← e1,← e2,UQ]at hg
        obtain⟨h3,k1,_⟩:=bJ (zm vs) (QQ _ h') hg
        rw[k1]
        simp
      cases hev:evC P pol (EV P pol) g 0 c 1 (zb (List.range args.length) args) [] with
      | none=>simp[hev]at hs
      | some y =>
       obtain⟨ex,e',h'⟩:=y
       cases ex with
       | normal=>simp only[hev]at hs ⊢;exact fin e' h' hs
       | ret=>simp only[hev]at hs ⊢;exact fin e' h' hs
       | exit n=>simp[hev]at hs
 unfold zu
 rw[qx hc]
end Go.Proofs.YtefkoljdebekdaaGreatDoor.E
/- The numbers that the draws take: from each state the chosen one is reached. Conditions: none. -/
namespace Go.Proofs.YtefkoljdebekdaaGreatDoor
open E
def Fn (a c:Int):Nat→Int→Int
 | 0,x=>x
 | n+1,x=>a*Fn a c n x+c
theorem Yy (a c:Int):∀ m n x,Fn a c (m+n) x=Fn a c m (Fn a c n x)
 | 0,n,x=>by rw[Nat.zero_add];rfl
 | m+1,n,x=>by rw[show m+1+n=(m+n)+1 by omega,Fn,Fn,Yy a c m n x]
theorem Q9 (a c s0 t0:Int)(ha:a=1+4*s0)(hc:c=2*t0+1):∀ k:Nat,∃ s t:Int,∀ x,Fn a c (2 ^ k) x=x+4*2 ^ k*s*x+2 ^ k*(2*t+1)
 | 0=>⟨s0,t0,fun x=>by
  show a*x+c=_
  subst ha hc
  grind⟩
 | k+1=>by
  obtain⟨s,t,h⟩:=Q9 a c s0 t0 ha hc k
  refine⟨s+2*2 ^ k*s*s,t+2 ^ k*s*(2*t+1),fun x=>?_⟩
  rw[show (2:Nat) ^ (k+1)=2 ^ k+2 ^ k by rw[Nat.pow_succ];omega,Yy,h,h,Int.pow_succ]
  generalize (2:Int) ^ k=p
  grind
theorem aC (a c s0 t0:Int)(ha:a=1+4*s0)(hc:c=2*t0+1)(x y:Int):∀ k:Nat,∃ (n:Nat) (q:Int),Fn a c n x=y+2 ^ k*q
 | 0=>⟨0,x - y,by show x=_;grind⟩
 | k+1=>by
  obtain⟨n,q,h⟩:=aC a c s0 t0 ha hc x y k
  obtain⟨s,t,g⟩:=Q9 a c s0 t0 ha hc k
  rcases Int.emod_two_eq q with e | e
  · refine ⟨n, q / 2, ?_⟩
    have e2:q=2*(q / 2):=by omega
    rw[h,Int.pow_succ]
    generalize (2:Int) ^ k=p at *
    generalize q / 2=r at *
    subst e2
    grind
  · refine ⟨2 ^ k + n, q / 2 + t + 1 + 2 * s * (y + 2 ^ k * q), ?_⟩
    have e2:q=2*(q / 2)+1:=by omega
    rw[Yy,h,g,Int.pow_succ]
    generalize (2:Int) ^ k=p at *
    generalize q / 2=r at *
    subst e2
    grind
def w64 (x:Int):Int:=IntKind.i64.wrap x
theorem fK (x:Int):∃ q:Int,w64 x=x+2 ^ 64*q:=by
 refine⟨-((x+9223372036854775808) / 18446744073709551616),?_⟩
 unfold w64
 rw[IntKind.wrap_i64]
 omega
theorem R7 (x:Int) : -9223372036854775808≤w64 x∧w64 x≤9223372036854775807:=by
 unfold w64
 rw[IntKind.wrap_i64]
 omega
theorem w64_eq {x y q:Int}(hy : -9223372036854775808≤y∧y≤9223372036854775807)(h:x=y+2 ^ 64*q):w64 x=y:=by
 obtain⟨q',e⟩:=fK x
 have:=R7 x
 omega
def lcA:Int:=6364136223846793005
def lcC:Int:=1442695040888963407
def lcg (h:Int):Int:=w64 (w64 (h*lcA)+lcC)
def oP:Nat→Int→Int
 | 0,h=>h
 | n+1,h=>lcg (oP n h)
theorem bf:∀ m n h,oP (m+n) h=oP m (oP n h)
 | 0,n,h=>by rw[Nat.zero_add];rfl
 | m+1,n,h=>by rw[show m+1+n=(m+n)+1 by omega,oP,oP,bf m n h]
theorem RA (h:Int) : -9223372036854775808≤lcg h∧lcg h≤9223372036854775807:=R7 _
theorem Xi (h:Int):∀ n,∃ q,oP n h=Fn lcA lcC n h+2 ^ 64*q
 | 0=>⟨0,by show h=h+_;omega⟩
 | n+1=>by
  obtain⟨q,e⟩:=Xi h n
  show ∃ q,lcg (oP n h)=lcA*Fn lcA lcC n h+lcC+2 ^ 64*q
  unfold lcg
  obtain⟨q1,e1⟩:=fK (oP n h*lcA)
  obtain⟨q2,e2⟩:=fK (w64 (oP n h*lcA)+lcC)
  refine⟨lcA*q+q1+q2,?_⟩
  rw[e2,e1,e]
  generalize lcA=a
  generalize Fn a lcC n h=z
  generalize lcC=c
  generalize (2:Int) ^ 64=p
  grind
theorem V4 (h y:Int)(hh : -9223372036854775808≤h∧h≤9223372036854775807)(hy : -9223372036854775808≤y∧y≤9223372036854775807):∃ n,oP n h=y:=by
 obtain⟨n,q,e⟩:=aC lcA lcC 1591034055961698251 721347520444481703 (by decide) (by decide) h y 64
 obtain⟨q',e'⟩:=Xi h n
 refine⟨n,?_⟩
 have hr : -9223372036854775808≤oP n h∧oP n h≤9223372036854775807:=by
  cases n with
  | zero=>exact hh
  | succ n=>exact RA _
 omega
def Oy (x y:Int):Int:=IntKind.i64.wrap (((BitVec.ofInt 64 x ^^^ BitVec.ofInt 64 y).toNat:Nat):Int)
def fH (x y:Int):Int:=IntKind.i64.wrap (((BitVec.ofInt 64 x &&& BitVec.ofInt 64 y).toNat:Nat):Int)
theorem Q8 (x:Int):∃ n:Nat,n≤255∧fH x 255=(n:Int):=by
 have h:(BitVec.ofInt 64 x &&& BitVec.ofInt 64 255).toNat≤255:=by
  rw[BitVec.toNat_and]
  exact Nat.le_trans Nat.and_le_right (by decide)
 refine⟨_,h,?_⟩
 unfold fH
 exact zq (by omega)
def Gk (h:Int):Int:=fH (Oy (h.fdiv (2 ^ 33)) (h.fdiv (2 ^ 45))) 255
abbrev Cs:=Nat×Int
def nxI (bs:List Int)(c:Cs):Int:=match bs[c.1]? with
 | some b=>fH (w64 (Gk (lcg c.2)+b)) 255
 | none=>Gk (lcg c.2)
def nxC (bs:List Int)(c:Cs):Cs:=match bs[c.1]? with
 | some _=>(c.1+1,lcg c.2)
 | none=>(c.1,lcg c.2)
theorem Xc (bs:List Int)(c:Cs):∃ n:Nat,n≤255∧nxI bs c=(n:Int):=by
 unfold nxI
 split
 · exact Q8 _
 · exact Q8 _
def nxN (bs:List Int)(c:Cs):Nat:=(nxI bs c).toNat
theorem NF (bs:List Int)(c:Cs):nxN bs c≤255:=by
 obtain⟨n,h1,h2⟩:=Xc bs c
 unfold nxN;rw[h2];simpa using h1
theorem Ru (bs:List Int)(c:Cs):nxI bs c=(nxN bs c:Int):=by
 obtain⟨n,h1,h2⟩:=Xc bs c
 unfold nxN;rw[h2];simp
theorem Rv (bs:List Int)(c:Cs)(h:c.1≤bs.length):(nxC bs c).1≤bs.length:=by
 unfold nxC
 split
 · rename_i b hb
   have:=(List.getElem?_eq_some_iff.1 hb).1
   exact this
 · exact h
def xT (bs:List Int):Nat→Cs→Cs
 | 0,c=>c
 | n+1,c=>xT bs n (nxC bs c)
def pH (bs:List Int):Cs:=(bs.length,9)
theorem rI (bs:List Int):∀ m n c,xT bs (m+n) c=xT bs n (xT bs m c)
 | 0,n,c=>by rw[Nat.zero_add];rfl
 | m+1,n,c=>by rw[show m+1+n=(m+n)+1 by omega,xT,xT,rI bs m n]
theorem kN (bs:List Int)(h:Int):nxC bs (bs.length,h)=(bs.length,lcg h):=by
 unfold nxC
 simp
theorem ns (bs:List Int):∀ n h,xT bs n (bs.length,h)=(bs.length,oP n h)
 | 0,h=>rfl
 | n+1,h=>by
  rw[xT,kN,ns bs n]
  congr 1
  have:=bf n 1 h
  rw[this];rfl
theorem YC (bs:List Int):∀ (k:Nat) (c:Cs),c.1+k=bs.length→∃ n h,xT bs n c=(bs.length,h)
 | 0,c,hc=>⟨0,c.2,by show c=_;ext1<;>simp_all⟩
 | k + 1, c, hc => by
  have hb:(nxC bs c).1+k=bs.length:=by
   unfold nxC
   rw[List.getElem?_eq_getElem (show c.1<bs.length by omega)]
   simp only
   omega
  obtain⟨n,h,e⟩:=YC bs k (nxC bs c) hb
  exact⟨n+1,h,e⟩
theorem aQ (bs:List Int)(c:Cs)(hc:c.1≤bs.length):∃ n,xT bs n c=pH bs:=by
 obtain⟨n,h,e⟩:=YC bs (bs.length - c.1) c (by omega)
 obtain⟨m,e2⟩:=V4 (lcg h) 9 (RA h) (by decide)
 refine⟨n+(1+m),?_⟩
 rw[rI,e,rI,ns,ns]
 show (bs.length,oP m (lcg h))=_
 rw[e2];rfl
theorem UW (bs:List Int):nxN bs (pH bs)=179∧nxN bs (nxC bs (pH bs))=203∧nxN bs (nxC bs (nxC bs (pH bs)))=89:=by
 unfold pH
 rw[kN,kN]
 unfold nxN nxI
 simp only[List.getElem?_eq_none (Nat.le_refl bs.length)]
 exact⟨by decide +kernel,by decide +kernel,by decide +kernel⟩
theorem wO (a lo hi:Int):zu (EV Tryz.prog pol) 52 [.t (.int .i64 a),.t (.int .i64 lo),.t (.int .i64 hi)]=some (.t (.bool (B2 a lo hi))):=by
 apply zx
 refine zy rfl Tryz.func52 rfl (by kernel_rfl) ?_
 unfold Tryz.f52
 unfold B2
 repeat' (first | (((first | with_reducible refine mc (fun hA=>?_) (fun hA=>?_) | with_reducible refine nY (fun hA=>?_) (fun hA=>?_))<;>(try simp only[bne,Bool.not_eq_true',Bool.not_eq_false']at hA)<;>(first | (have hP:=Int.le_of_eq (eq_of_beq (α:=Int) hA);have hQ:=Int.le_of_eq (eq_of_beq (α:=Int) hA).symm) | have hP:=of_decide_eq_true hA | have hP:=of_decide_eq_false hA | skip))<;>(simp (disch:=((try simp only[LL]);omega)) only[↓GO,↓DRW,GA,GX,ren,zk,za,refs,z8,cst,zr,isC,bin,una,z7,zd,blt,asArg,zg,zc,zf,z6,E.mkS,unN,ze,zm,zb,GS,simprocAttr,zq,bne, *])) | (simp (disch:=((try simp only[LL]);omega)) only[↓GO,↓DRW,GA,GX,ren,zk,za,refs,z8,cst,zr,isC,bin,una,z7,zd,blt,asArg,zg,zc,zf,z6,E.mkS,unN,ze,zm,zb,GS,simprocAttr,zq,bne, *]))
theorem wG (a lo hi:Int):zu (EV Tryz.prog pol) 80 [.t (.int .i64 a),.t (.int .i64 lo),.t (.int .i64 hi)]=some (.t (.bool (B2 a lo hi))):=by
 apply zx
 refine zy rfl Tryz.func80 rfl (by kernel_rfl) ?_
 unfold Tryz.f80
 unfold B2
 repeat' (first | (((first | with_reducible refine mc (fun hA=>?_) (fun hA=>?_) | with_reducible refine nY (fun hA=>?_) (fun hA=>?_))<;>(try simp only[bne,Bool.not_eq_true',Bool.not_eq_false']at hA)<;>(first | (have hP:=Int.le_of_eq (eq_of_beq (α:=Int) hA);have hQ:=Int.le_of_eq (eq_of_beq (α:=Int) hA).symm) | have hP:=of_decide_eq_true hA | have hP:=of_decide_eq_false hA | skip))<;>(simp (disch:=((try simp only[LL]);omega)) only[↓GO,↓DRW,GA,GX,ren,zk,za,refs,z8,cst,zr,isC,bin,una,z7,zd,blt,asArg,zg,zc,zf,z6,E.mkS,unN,ze,zm,zb,GS,simprocAttr,zq,bne,ge_iff_le, *])) | (simp (disch:=((try simp only[LL]);omega)) only[↓GO,↓DRW,GA,GX,ren,zk,za,refs,z8,cst,zr,isC,bin,una,z7,zd,blt,asArg,zg,zc,zf,z6,E.mkS,unN,ze,zm,zb,GS,simprocAttr,zq,bne,ge_iff_le, *]))
theorem gD (a:Int):zu (EV Tryz.prog pol) 174 [.t (.int .u8 a)]=some (.t (.bool (B2 a 97 122))):=by
 apply zx
 refine zy rfl Tryz.func174 rfl (by kernel_rfl) ?_
 unfold Tryz.f174
 unfold B2
 repeat' (first | (((first | with_reducible refine mc (fun hA=>?_) (fun hA=>?_) | with_reducible refine nY (fun hA=>?_) (fun hA=>?_))<;>(try simp only[bne,Bool.not_eq_true',Bool.not_eq_false']at hA)<;>(first | (have hP:=Int.le_of_eq (eq_of_beq (α:=Int) hA);have hQ:=Int.le_of_eq (eq_of_beq (α:=Int) hA).symm) | have hP:=of_decide_eq_true hA | have hP:=of_decide_eq_false hA | skip))<;>(simp (disch:=((try simp only[LL]);omega)) only[↓GO,↓DRW,GA,GX,ren,zk,za,refs,z8,cst,zr,isC,bin,una,z7,zd,blt,asArg,zg,zc,zf,z6,E.mkS,unN,ze,zm,zb,GS,simprocAttr,zq,bne,ge_iff_le, *])) | (simp (disch:=((try simp only[LL]);omega)) only[↓GO,↓DRW,GA,GX,ren,zk,za,refs,z8,cst,zr,isC,bin,una,z7,zd,blt,asArg,zg,zc,zf,z6,E.mkS,unN,ze,zm,zb,GS,simprocAttr,zq,bne,ge_iff_le, *]))
theorem nR (a:Int):zu (EV Tryz.prog pol) 175 [.t (.int .u8 a)]=some (.t (.bool (B2 a 48 57))):=by
 apply zx
 refine zy rfl Tryz.func175 rfl (by kernel_rfl) ?_
 unfold Tryz.f175
 unfold B2
 repeat' (first | (((first | with_reducible refine mc (fun hA=>?_) (fun hA=>?_) | with_reducible refine nY (fun hA=>?_) (fun hA=>?_))<;>(try simp only[bne,Bool.not_eq_true',Bool.not_eq_false']at hA)<;>(first | (have hP:=Int.le_of_eq (eq_of_beq (α:=Int) hA);have hQ:=Int.le_of_eq (eq_of_beq (α:=Int) hA).symm) | have hP:=of_decide_eq_true hA | have hP:=of_decide_eq_false hA | skip))<;>(simp (disch:=((try simp only[LL]);omega)) only[↓GO,↓DRW,GA,GX,ren,zk,za,refs,z8,cst,zr,isC,bin,una,z7,zd,blt,asArg,zg,zc,zf,z6,E.mkS,unN,ze,zm,zb,GS,simprocAttr,zq,bne,ge_iff_le, *])) | (simp (disch:=((try simp only[LL]);omega)) only[↓GO,↓DRW,GA,GX,ren,zk,za,refs,z8,cst,zr,isC,bin,una,z7,zd,blt,asArg,zg,zc,zf,z6,E.mkS,unN,ze,zm,zb,GS,simprocAttr,zq,bne,ge_iff_le, *]))
theorem wrap_u8 (b:UInt8):IntKind.i64.wrap (b.toNat:Int)=(b.toNat:Int):=by have:=Qb b;exact zq (by omega)
theorem mP (b:UInt8):zu (EV Tryz.prog pol) 180 [.t (.int .u8 (b.toNat:Int))]=some (.t (.bool (B2 (nb b) 97 122||B2 (nb b) 48 57))):=by
 apply zx
 refine zy rfl Tryz.func180 rfl (by kernel_rfl) ?_
 unfold Tryz.f180
 have h1:=wG (b.toNat:Int) 97 122
 have h2:=wG (b.toNat:Int) 48 57
 repeat' (first | (((first | with_reducible refine mc (fun hA=>?_) (fun hA=>?_) | with_reducible refine nY (fun hA=>?_) (fun hA=>?_))<;>(try simp only[bne,Bool.not_eq_true',Bool.not_eq_false']at hA)<;>(first | (have hP:=Int.le_of_eq (eq_of_beq (α:=Int) hA);have hQ:=Int.le_of_eq (eq_of_beq (α:=Int) hA).symm) | have hP:=of_decide_eq_true hA | have hP:=of_decide_eq_false hA | skip))<;>(simp (disch:=((try simp only[LL]);omega)) only[↓GO,↓DRW,GA,GX,ren,zk,za,refs,z8,cst,zr,isC,bin,una,z7,zd,blt,asArg,zg,zc,zf,z6,E.mkS,unN,ze,zm,zb,GS,simprocAttr,zq,bne,conv,wrap_u8, *])) | (simp (disch:=((try simp only[LL]);omega)) only[↓GO,↓DRW,GA,GX,ren,zk,za,refs,z8,cst,zr,isC,bin,una,z7,zd,blt,asArg,zg,zc,zf,z6,E.mkS,unN,ze,zm,zb,GS,simprocAttr,zq,bne,conv,wrap_u8, *]))
theorem OW (f:Nat)(p:UInt8→Bool)(hp:∀ b:UInt8,zu (EV Tryz.prog pol) f [.t (.int .u8 (b.toNat:Int))]=some (.t (.bool (p b))))(s:Str)(hl:s.length≤9223372036854775807):∀ (rest pre:Str),s=pre++rest →
 EV Tryz.prog pol (.loop 172 26 0 [.t (.str s),.t (.fn f []),.t (.int .i64 (s.length:Int)),.t (.int .i64 (pre.length:Int))] [])=some (cond (rest.all p) (.loop (.exit 0) [.bad] []) (.loop .ret [.t (.bool false)] []))
 | [],pre,hs=>by
  have c:decide ((pre.length:Int)<(s.length:Int))=false:=by simp[hs]
  refine zo Tryz.func172 rfl rfl ?_
  simp only[↓GO,↓DRW,GA,GX,ren,zk,za,refs,z8,cst,zr,isC,bin,una,z7,zd,blt,asArg,zg,zc,zf,z6,E.mkS,unN,ze,zm,zb,GS,simprocAttr,c]
 | b :: rest, pre, hs => by
  have c:decide ((pre.length:Int)<(s.length:Int))=true:=by simp[hs];omega
  have hget:s[pre.length]? = some b:=by rw[hs];exact sT pre b rest
  have hlen:s.length=pre.length+rest.length+1:=by rw[hs];simp;omega
  have e1:(pre.length:Int)+1=((pre++[b]).length:Int):=by simp
  have IH:=OW f p hp s hl rest (pre++[b]) (by rw[hs];simp)
  have hb:=hp b
  refine zo Tryz.func172 rfl rfl ?_
  cases hpb:p b with
  | true =>
   rw[hpb]at hb
   simp (disch:=omega) only[↓GO,↓DRW,GA,GX,ren,zk,za,refs,z8,cst,zr,isC,bin,una,z7,zd,blt,asArg,zg,zc,zf,z6,E.mkS,unN,ze,zm,zb,GS,simprocAttr,c,hget,zq,hb]
   rw[e1,IH,hpb,Bool.true_and]
  | false =>
   rw[hpb]at hb
   simp (disch:=omega) only[↓GO,↓DRW,GA,GX,ren,zk,za,refs,z8,cst,zr,isC,bin,una,z7,zd,blt,asArg,zg,zc,zf,z6,E.mkS,unN,ze,zm,zb,GS,simprocAttr,c,hget,zq,hb]
   rw[hpb];rfl
theorem Wt (f:Nat)(p:UInt8→Bool)(hp:∀ b:UInt8,zu (EV Tryz.prog pol) f [.t (.int .u8 (b.toNat:Int))]=some (.t (.bool (p b))))(s:Str)(hl:s.length≤9223372036854775807) :
 zu (EV Tryz.prog pol) 172 [.t (.str s),.t (.fn f [])]=some (.t (.bool (s.all p))):=by
 have IH:=OW f p hp s hl s [] rfl
 simp only[List.length_nil,Int.natCast_zero]at IH
 apply zx
 refine zy rfl Tryz.func172 rfl (by kernel_rfl) ?_
 unfold Tryz.f172
 cases hb:s.all p with
 | true=>rw[hb]at IH;simp only[cond_true]at IH;simp only[↓GO,↓DRW,GA,GX,ren,zk,za,refs,z8,cst,zr,isC,bin,una,z7,zd,blt,asArg,zg,zc,zf,z6,E.mkS,unN,ze,zm,zb,GS,simprocAttr,IH]
 | false=>rw[hb]at IH;simp only[cond_false]at IH;simp only[↓GO,↓DRW,GA,GX,ren,zk,za,refs,z8,cst,zr,isC,bin,una,z7,zd,blt,asArg,zg,zc,zf,z6,E.mkS,unN,ze,zm,zb,GS,simprocAttr,IH]
end Go.Proofs.YtefkoljdebekdaaGreatDoor
/- Texts cut at a byte; names; plain texts. Plain. Conditions: none. -/
namespace Go.Proofs.YtefkoljdebekdaaGreatDoor
theorem ke (b:UInt8)(s:Str):Lib.index (b::s) [b]=0:=by rw[Lib.index];simp[List.isPrefixOf]
theorem mF (x b:UInt8)(s:Str)(h:x≠b):Lib.index (x::s) [b]=if Lib.index s [b]==-1 then -1 else Lib.index s [b]+1:=by
 have hp:([b]:List UInt8).isPrefixOf (x::s)=false:=by simp[List.isPrefixOf,Ne.symm h]
 rw[Lib.index,hp];simp
theorem qw (b:UInt8):∀ s:Str,xu b s≠[]
 | []=>by simp[xu]
 | x::s=>by
  unfold xu
  split
  · simp
  · split<;>simp
theorem uX (b:UInt8)(s:Str):xu b (b::s)=[]::xu b s:=by rw[xu,if_pos rfl]
theorem vB (b x:UInt8)(s p:Str)(r:List Str)(h:x≠b)(e:xu b s=p::r):xu b (x::s)=(x::p)::r:=by
 rw[xu,if_neg h,e]
theorem jY (b:UInt8):∀ s:Str,Lib.split s [b]=xu b s
 | []=>by
  unfold Lib.split
  rw[Lib.count_miss (by simp[Lib.index])];rfl
 | x::s=>by
  have ih:=jY b s
  unfold Lib.split at ih ⊢
  by_cases h:x=b
  · subst h
    rw[Lib.count_cons_eq,Nat.add_comm,Lib.splitK,ke,uX]
    simpa using ih
  · rw [Lib.count_cons_ne x b s h]
    by_cases hm:Lib.index s [b] = -1
    · rw [Lib.count_miss hm] at ih ⊢
      rw[Lib.splitK]at ih ⊢
      exact (vB b x s s [] h ih.symm).symm
    · have hge := Lib.index_ge s [b]
      obtain⟨j,hj⟩:∃ j:Nat,Lib.index s [b]=j:=⟨(Lib.index s [b]).toNat,by omega⟩
      rw[Lib.count_hit (by simp) hj,Nat.add_comm]at ih ⊢
      have hb:(((j:Nat):Int)==-1)=false:=by rw[beq_eq_false_iff_ne];omega
      have hb2:(((j:Nat):Int)+1==-1)=false:=by rw[beq_eq_false_iff_ne];omega
      rw[Lib.splitK,hj,hb]at ih
      rw[Lib.splitK,mF x b s h,hj,hb]
      simp only[Bool.false_eq_true,if_false,hb2,Int.toNat_natCast,Nat.add_zero,List.length_cons,List.length_nil,Nat.zero_add]at ih ⊢
      rw[show ((j:Int)+1).toNat=j+1 by omega]
      rw[List.take_succ_cons,List.drop_succ_cons]
      exact (vB b x s _ _ h ih.symm).symm
def yI (b:UInt8):Str→Str×Str×Bool
 | []=>([],[],false)
 | x::s=>if x=b then ([],s,true) else (x::(yI b s).1,(yI b s).2.1,(yI b s).2.2)
theorem aa (b:UInt8):∀ s:Str,Lib.cut s [b]=yI b s
 | []=>by simp[Lib.cut,yI,Lib.index]
 | x::s=>by
  have ih:=aa b s
  by_cases h:x=b
  · subst h
    unfold Lib.cut
    rw[ke,yI,if_pos rfl];simp
  · rw [yI, if_neg h, ← ih]
    unfold Lib.cut
    rw[mF x b s h]
    have hge:=Lib.index_ge s [b]
    by_cases hm:Lib.index s [b] = -1
    · rw[hm];simp
    · obtain ⟨j, hj⟩ : ∃ j : Nat, Lib.index s [b] = j := ⟨(Lib.index s [b]).toNat, by omega⟩
      have hb:(((j:Nat):Int)==-1)=false:=by rw[beq_eq_false_iff_ne];omega
      rw[hj,hb]
      simp only[Bool.false_eq_true,if_false]
      rw[if_pos (by omega),if_pos (by omega),show ((j:Int)+1).toNat=j+1 by omega]
      simp only[List.take_succ_cons,Int.toNat_natCast]
      rw[show j+1+[b].length=(j+[b].length)+1 by simp,List.drop_succ_cons]
theorem lk (b:UInt8):∀ s:Str,s=(yI b s).1++cond (yI b s).2.2 (b::(yI b s).2.1) []
 | []=>rfl
 | x::s=>by
  rw[yI]
  split
  · rename_i h;rw[h];rfl
  · have := lk b s
    show x::s=(x::(yI b s).1)++_
    rw[List.cons_append,← this]
theorem ae (b:UInt8):∀ s:Str,b∉(yI b s).1
 | []=>by simp[yI]
 | x::s=>by
  rw[yI]
  split
  · simp
  · rename_i h
    have:=ae b s
    simp only[List.mem_cons,not_or]
    exact⟨Ne.symm h,this⟩
theorem ko (b:UInt8):∀ s:Str,(yI b s).2.2=false→(yI b s).2.1=[]
 | [],_=>rfl
 | x::s,h=>by
  rw[yI]at h ⊢
  split at h
  · simp at h
  · rename_i hx
    rw[if_neg hx];exact ko b s h
theorem af (b:UInt8)(t:Str):∀ s:Str,b∉s→yI b (s++b::t)=(s,t,true)
 | [],_=>by simp[yI]
 | x::s,h=>by
  simp only[List.mem_cons,not_or]at h
  rw[List.cons_append,yI,if_neg (Ne.symm h.1),af b t s h.2]
theorem ab (b:UInt8)(t:Str):∀ s:Str,xu b (s++b::t)=xu b s++xu b t
 | []=>by rw[List.nil_append,uX];rfl
 | x :: s => by
  have ih:=ab b t s
  rw[List.cons_append]
  by_cases h:x=b
  · subst h;rw[uX,uX,ih];rfl
  · cases hc : xu b s with
    | nil=>exact absurd hc (qw b s)
    | cons p r =>
     rw[hc]at ih
     rw[vB b x s p r h hc,vB b x _ p (r++xu b t) h ih];rfl
def qD:Str:=[110,111,100,101,95,109,111,100,117,108,101,115]
def tj (b:UInt8):Bool:=B2 (nb b) 97 122||B2 (nb b) 48 57||nb b==46||nb b==95||nb b==45
def mS (s:Str):Bool:=([64]:Str).isPrefixOf s
def xG (s:Str):Str:=match s with
 | []=>[]
 | x::r=>if x=64 then r else x::r
def tc (sc:Bool):List Str→Bool
 | []=>true
 | p::r=>(!((p==[])||((p==qD)&&!sc)||!(p.all tj)))&&tc false r
def rS (s:Str):Bool:=tc (mS s) (xu 47 (xG s))&&decide ((s.length:Int)≤60)
def jq:List Str→Bool
 | []=>true
 | p::r=>(!(p==qD)&&(p.all tj&&!(p==[])))&&jq r
def pQ:List Str→Bool
 | []=>true
 | p::r=>(!(p==qD)&&((xG p).all tj&&!(xG p==[])))&&jq r
theorem q9:∀ r:List Str,jq r=tc false r
 | []=>rfl
 | p::r=>by
  rw[jq,tc,q9 r]
  cases (p==[])<;>cases (p==qD)<;>cases (p.all tj)<;>rfl
theorem WZ (s:Str):(pQ (xu 47 s)&&decide ((s.length:Int)≤60))=rS s:=by
 unfold rS
 congr 1
 cases s with
 | nil=>rfl
 | cons x t =>
  cases hc:xu 47 t with
  | nil=>exact absurd hc (qw 47 t)
  | cons p r =>
   by_cases h64:x=64
   · subst h64
     rw[vB 47 64 t p r (by decide) hc]
     have h1:mS (64::t)=true:=by simp[mS,List.isPrefixOf]
     have h2:xG (64::t)=t:=by simp[xG]
     have h3:xG (64::p)=p:=by simp[xG]
     have h4:(((64:UInt8)::p)==qD)=false:=by simp[qD]
     rw[h1,h2,hc,pQ,tc,h3,h4,q9]
     cases (p==[])<;>cases (p==qD)<;>cases (p.all tj)<;>rfl
   · have h1 : mS (x :: t) = false := by simp [mS, List.isPrefixOf]; exact fun h => h64 h.symm
     have h2:xG (x::t)=x::t:=by simp[xG,h64]
     rw[h1,h2]
     by_cases h47:x=47
     · subst h47
       rw[uX,pQ,tc,q9]
       rfl
     · rw [vB 47 x t p r h47 hc, pQ, tc, q9]
       have h3:xG (x::p)=x::p:=by simp[xG,h64]
       rw[h3]
       cases ((x::p)==[])<;>cases ((x::p)==qD)<;>cases ((x::p).all tj)<;>rfl
def pP (b:UInt8):Bool:=B2 (nb b) 33 126&&(!(nb b==34)&&(!(nb b==39)&&(!(nb b==44)&&!(nb b==92))))
def tD (s:Str):Bool:=s.all pP&&decide ((s.length:Int)≤100)
def isD (c:UInt8):Bool:=decide (48≤c.toNat)&&decide (c.toNat≤57)
def pG (a:Nat)(c:UInt8):Nat:=a*10+(c.toNat - 48)
def tL (acc:Nat)(l:List UInt8):Nat:=l.foldl pG acc
theorem kB (acc:Nat):tL acc []=acc:=rfl
theorem nh (acc:Nat)(c:UInt8)(l:List UInt8):tL acc (c::l)=tL (pG acc c) l:=by
 unfold tL
 rw[List.foldl_cons]
theorem jU (c:UInt8)(l:List UInt8)(acc:Nat):tL acc (l++[c])=pG (tL acc l) c:=by
 unfold tL
 rw[List.foldl_append,List.foldl_cons,List.foldl_nil]
theorem oS (c:UInt8):isD c=true↔48≤c.toNat∧c.toNat≤57:=by simp[isD]
theorem YE (acc:Nat)(c:UInt8)(h:isD c=true):pG acc c+1≤(acc+1)*10:=by
 have:=(oS c).1 h
 unfold pG
 omega
theorem lL (n m:Nat):m*10 ^ (n+1)=m*10*10 ^ n:=by rw[Nat.pow_succ,Nat.mul_comm (10 ^ n) 10,Nat.mul_assoc]
theorem l0:∀ (l:List UInt8) (acc:Nat),l.all isD=true→tL acc l<(acc+1)*10 ^ l.length
 | [],acc,_=>by rw[kB];simp
 | c::l,acc,h=>by
  rw[List.all_cons,Bool.and_eq_true]at h
  have ih:=l0 l (pG acc c) h.2
  rw[nh,List.length_cons,lL]
  exact Nat.lt_of_lt_of_le ih (Nat.mul_le_mul_right _ (YE acc c h.1))
theorem gu {d:Nat}(h:d<10):(UInt8.ofNat (48+d)).toNat=48+d:=by
 simp[UInt8.toNat_ofNat'];omega
theorem tB (u:Nat):(Lib.decDigits u).all isD=true∧tL 0 (Lib.decDigits u)=u∧Lib.decDigits u≠[]:=by
 induction u using Nat.strongRecOn with
 | _ u ih =>
  rw[Lib.decDigits]
  split
  · rename_i h
    have:=gu h
    refine⟨?_,?_,by simp⟩
    · rw[List.all_cons,List.all_nil,Bool.and_true,oS,this];omega
    · rw[nh,kB,pG,this];omega
  · rename_i h
    obtain⟨h1,h2,h3⟩:=ih (u / 10) (by omega)
    have:=gu (d:=u % 10) (by omega)
    refine⟨?_,?_,by simp⟩
    · rw[List.all_append,h1,List.all_cons,List.all_nil,Bool.and_true,Bool.true_and,oS,this];omega
    · rw[jU,h2,pG,this];omega
theorem pV:∀ (l:List UInt8) (acc:Nat),l.all isD=true→(acc+1)*10 ^ l.length≤1000000000000000000→Lib.parseUint10 acc l=.ok (tL acc l)
 | [],acc,_,_=>rfl
 | c::l,acc,h,hb=>by
  rw[List.all_cons,Bool.and_eq_true]at h
  have hp:0<10 ^ l.length:=Nat.pos_of_ne_zero (by intro h;simp at h)
  rw[List.length_cons,lL]at hb
  have h10:(acc+1)*10≤1000000000000000000:=Nat.le_trans (Nat.le_mul_of_pos_right _ hp) hb
  have hc:=(oS c).1 h.1
  have ih:=pV l (pG acc c) h.2 (Nat.le_trans (Nat.mul_le_mul_right _ (YE acc c h.1)) hb)
  rw[Lib.parseUint10,if_pos hc,if_neg (by omega),if_neg (by omega),nh,← ih]
  rfl
theorem my:∀ (k u:Nat),1≤k→u<10 ^ k→Lib.nDigits u≤k
 | 0,u,h,_=>by omega
 | k + 1, u, _, h => by
  rw[Lib.nDigits]
  split
  · omega
  · have h10 : u / 10 < 10 ^ k := by rw [Nat.pow_succ] at h; omega
    have hk:1≤k:=by
     rcases Nat.eq_zero_or_pos k with rfl | h
     · simp at h10;omega
     · exact h
    have:=my k (u / 10) hk h10
    omega
theorem r7 {u:Nat}(h:u≤999999999):(Lib.decDigits u).length≤9:=by
 rw[Lib.decDigits_length]
 exact my 9 u (by omega) (by omega)
theorem dE {u:Nat}(h:u≤999999999):Lib.atoiAll (Lib.decDigits u)=.ok (u:Int):=by
 obtain⟨h1,h2,h3⟩:=tB u
 have hl:=r7 h
 generalize Lib.decDigits u=l at *
 cases l with
 | nil=>exact absurd rfl h3
 | cons c r =>
  have hc:isD c=true:=by simp only[List.all_cons,Bool.and_eq_true]at h1;exact h1.1
  simp only[isD,Bool.and_eq_true,decide_eq_true_eq]at hc
  have hp:Lib.parseMag (c::r)=.ok u:=by
   unfold Lib.parseMag
   have:(10:Nat) ^ (c::r).length≤10 ^ 9:=Nat.pow_le_pow_right (by omega) hl
   have e9:(10:Nat) ^ 9=1000000000:=by decide
   rw[if_neg (by simp),pV _ 0 h1 (by omega),h2]
  unfold Lib.atoiAll
  simp only
  rw[if_neg (by omega),hp]
  simp only
  rw[if_neg (by omega),if_neg (by omega),if_neg (by omega)]
def zT (s:List UInt8):Int :=
 match Lib.atoiAll s with
 | .ok v=>cond ((decide (0≤v)&&decide (v≤999999999))&&(Lib.itoa v==s)) v (-1)
 | _=>-1
def qu (s:List UInt8):Int:=cond ((s.all isD&&decide (s.length≤9))&&(!(s==[])&&(Lib.itoa (tL 0 s:Nat)==s))) (tL 0 s:Nat) (-1)
theorem ik {u:Nat}(h:u≤999999999):zT (Lib.decDigits u)=u∧qu (Lib.decDigits u)=u:=by
 obtain⟨h1,h2,h3⟩:=tB u
 have hl:=r7 h
 refine⟨?_,?_⟩
 · unfold zT
   rw[dE h]
   simp only
   rw[Lib.itoa_nonneg]
   have e1:decide ((0:Int)≤(u:Int))=true:=by simp
   have e2:decide ((u:Int)≤999999999)=true:=by simp;omega
   rw[e1,e2];simp
 · unfold qu
   rw[h1,h2,Lib.itoa_nonneg]
   have e1:decide ((Lib.decDigits u).length≤9)=true:=by simpa using hl
   have e2:(Lib.decDigits u==[])=false:=by simpa using h3
   rw[e1,e2];simp
theorem WK {s:List UInt8}(h:∀ u,u≤999999999→s≠Lib.decDigits u):zT s = -1∧qu s = -1:=by
 refine⟨?_,?_⟩
 · unfold zT
   split
   · rename_i v hv
     cases hc:((decide (0≤v)&&decide (v≤999999999))&&(Lib.itoa v==s)) with
     | false=>rfl
     | true =>
      simp only[Bool.and_eq_true,decide_eq_true_eq]at hc
      obtain⟨⟨c1,c2⟩,c3⟩:=hc
      obtain⟨u,rfl⟩:∃ u:Nat,v=u:=⟨v.toNat,by omega⟩
      rw[Lib.itoa_nonneg]at c3
      exact absurd (eq_of_beq c3).symm (h u (by omega))
   · rfl
 · unfold qu
   cases hc:((s.all isD&&decide (s.length≤9))&&(!(s==[])&&(Lib.itoa (tL 0 s:Nat)==s))) with
   | false=>rfl
   | true =>
    simp only[Bool.and_eq_true,decide_eq_true_eq]at hc
    obtain⟨⟨c1,c2⟩,c3,c4⟩:=hc
    rw[Lib.itoa_nonneg]at c4
    have hv:=l0 s 0 c1
    have:(10:Nat) ^ s.length≤10 ^ 9:=Nat.pow_le_pow_right (by omega) c2
    have e9:(10:Nat) ^ 9=1000000000:=by decide
    exact absurd (eq_of_beq c4).symm (h _ (by omega))
theorem Wz (s:List UInt8):qu s=zT s:=by
 by_cases h:∃ u,u≤999999999∧s=Lib.decDigits u
 · obtain ⟨u, hu, rfl⟩ := h
   obtain⟨h1,h2⟩:=ik hu
   rw[h1,h2]
 · obtain ⟨h1, h2⟩ := WK (s := s) fun u hu he => h ⟨u, hu, he⟩
   rw[h1,h2]
end Go.Proofs.YtefkoljdebekdaaGreatDoor
/- Versions, packs, graphs, plain. Conditions: none. -/
namespace Go.Proofs.YtefkoljdebekdaaGreatDoor
open E
theorem rK (a b:UInt8)(x y:Str):Op.bytesLess (a::x) (b::y)=(decide (a<b)||(a==b&&Op.bytesLess x y)):=by
 rw[Op.bytesLess]
theorem oO:∀ x y:Str,(Op.bytesLess x y||x==y) = !(Op.bytesLess y x)
 | [],[]=>rfl
 | [],b::y=>by simp[Op.bytesLess]
 | a::x,[]=>by simp[Op.bytesLess]
 | a :: x, b :: y => by
  have ih:=oO x y
  rw[rK,rK]
  by_cases h1:a<b
  · have h2 : ¬ b < a := by simp only [UInt8.lt_iff_toNat_lt] at h1 ⊢; omega
    have h3:(b==a)=false:=by
     rw[beq_eq_false_iff_ne];intro h;subst h;simp only[UInt8.lt_iff_toNat_lt]at h1;omega
    simp[h1,h2,h3]
  · by_cases h2 : b < a
    · have h3 : (a == b) = false := by
       rw[beq_eq_false_iff_ne];intro h;subst h;simp only[UInt8.lt_iff_toNat_lt]at h2;omega
      have h4:((a::x)==(b::y))=false:=by
       rw[beq_eq_false_iff_ne];intro h;cases h;simp at h3
      simp[h1,h2,h3,h4]
    · have h3 : a = b := by
       apply UInt8.toNat_inj.1;simp only[UInt8.lt_iff_toNat_lt]at h1 h2;omega
      subst h3
      have e:((a::x)==(a::y))=(x==y):=by
       rw[Bool.eq_iff_iff];simp
      simp only[h1,decide_false,Bool.false_or,beq_self_eq_true,Bool.true_and,e,ih]
theorem u5 (b:UInt8):∀ s:Str,yg (xu b s)+(xu b s).length≤s.length+1
 | []=>by simp[xu,yg]
 | x :: s => by
  have ih:=u5 b s
  by_cases h:x=b
  · subst h;rw[uX];simp only[yg,List.length_cons,List.length_nil];omega
  · cases hc : xu b s with
    | nil=>exact absurd hc (qw b s)
    | cons p r =>
     rw[hc]at ih
     rw[vB b x s p r h hc]
     simp only[yg,List.length_cons]at ih ⊢;omega
theorem oG (b:UInt8)(s:Str):(yI b s).1.length≤s.length∧(yI b s).2.1.length≤s.length:=by
 have h:=lk b s
 have h2:=congrArg List.length h
 rw[List.length_append]at h2
 cases hc:(yI b s).2.2 with
 | true=>rw[hc]at h2;simp only[cond_true,List.length_cons]at h2;omega
 | false =>
  have:=ko b s hc
  rw[this];simp only[List.length_nil];omega
theorem uY:∀ {ks:List Str} {s:Str},s∈ks→s.length≤yg ks
 | k::ks,s,h=>by
  simp only[yg]
  rcases List.mem_cons.1 h with rfl | h
  · omega
  · have:=uY h;omega
theorem jb:∀ a b:List Str,yg (a++b)=yg a+yg b
 | [],b=>by simp[yg]
 | x::a,b=>by simp only[List.cons_append,yg,jb a b];omega
theorem iH:∀ l:List Str,Lib.lens l=yg l
 | []=>rfl
 | x::l=>by
  have:=iH l
  simp only[yg,← this];simp[Lib.lens]
theorem join_le (sep:Str):∀ l:List Str,(Lib.join l sep).length≤yg l+sep.length*l.length
 | []=>by simp[Lib.join_nil]
 | x::r=>by rw[Lib.join_length,iH];simp only[List.length_cons,Nat.mul_add,Nat.mul_one];omega
theorem kb (sep:Str)(x:Str)(l:List Str)(y:Str):Lib.join (x::l++[y]) sep=Lib.join (x::l) sep++(sep++y):=by
 rw[List.cons_append,Lib.join_cons,Lib.join_cons];simp[Lib.joinTail]
structure Ver where
 maj:Int
 min:Int
 pat:Int
 pre:List Str
def Ver.enc (v:Ver):List T:=[.int .i64 v.maj,.int .i64 v.min,.int .i64 v.pat,.list 1 (strs v.pre)]
def Ver.zero:Ver:=⟨0,0,0,[]⟩
def preB (b:UInt8):Bool:=(B2 (nb b) 97 122||B2 (nb b) 48 57)||(B2 (nb b) 65 90||nb b==45)
def isNum (s:Str):Bool:=!(s==[])&&s.all isD
def sr (p:Str):Bool:=B2 (p.length:Int) 1 20&&(p.all preB&&(!(isNum p)||decide (0≤zT p)))
def n9 (n:Int):Bool:=B2 n 0 999999999
def xr (v:Ver):Bool:=(n9 v.maj&&(n9 v.min&&n9 v.pat))&&(v.pre.all sr&&decide ((v.pre.length:Int)≤5))
def tm (v:Ver):Str:=(((Lib.itoa v.maj++[46])++Lib.itoa v.min)++[46])++Lib.itoa v.pat
def vx (c:Str)(pre:List Str):Str:=cond (pre==[]) c (c++([45]++Lib.join pre [46]))
def yl (v:Ver):Str:=cond (xr v) (vx (tm v) v.pre) []
def ub (s:Str):Option Ver :=
 match xu 46 (yI 45 s).1 with
 | [a,b,c]=>some ⟨zT a,zT b,zT c,cond (yI 45 s).2.2 (xu 46 (yI 45 s).2.1) []⟩
 | _=>none
def y5 (s:Str):Ver×Bool :=
 match ub s with
 | some v=>cond (yl v==s) (v,true) (Ver.zero,false)
 | none=>(Ver.zero,false)
theorem bb {s:Str}{v:Ver}(h:ub s=some v):s≠[]:=by
 intro e;subst e;simp[ub,yI,xu]at h
theorem wP {s:Str}(h:(y5 s).2=true):ub s=some (y5 s).1∧yl (y5 s).1=s∧xr (y5 s).1=true∧s≠[]:=by
 unfold y5 at h ⊢
 cases hm:ub s with
 | none=>rw[hm]at h;cases h
 | some v =>
  rw[hm]at h
  simp only at h ⊢
  have hs:=bb hm
  cases hc:(yl v==s) with
  | false=>rw[hc]at h;cases h
  | true =>
   have he:=eq_of_beq hc
   simp only[cond_true]
   refine⟨trivial,he,?_,hs⟩
   cases hv:xr v with
   | true=>rfl
   | false=>unfold yl at he;rw[hv]at he;exact absurd he.symm hs
theorem jk (n:Int):n9 n=true↔0≤n∧n≤999999999:=by simp[n9]
theorem tN {v:Ver}(h:xr v=true):(0≤v.maj∧v.maj≤999999999)∧(0≤v.min∧v.min≤999999999)∧(0≤v.pat∧v.pat≤999999999)∧v.pre.all sr=true∧v.pre.length≤5:=by
 unfold xr at h
 simp only[Bool.and_eq_true,jk,decide_eq_true_eq]at h
 obtain⟨⟨h1,h2,h3⟩,h4,h5⟩:=h
 exact⟨h1,h2,h3,h4,by omega⟩
theorem rk (s:Str) : -1≤zT s∧zT s≤999999999:=by
 unfold zT
 split
 · rename_i v _
   cases hc:((decide (0≤v)&&decide (v≤999999999))&&(Lib.itoa v==s)) with
   | false=>simp
   | true =>
    simp only[Bool.and_eq_true,decide_eq_true_eq]at hc
    simp only[cond_true];omega
 · simp
def qT (v:Ver):Ver:=⟨v.maj,v.min,v.pat,v.pre++[[48]]⟩
theorem Ww (c:Str)(x:Str)(l:List Str):vx c ((x::l)++[[48]])=vx c (x::l)++[46,48]:=by
 unfold vx
 rw[kb]
 simp
theorem beq_nil_cons {α:Type} [BEq α](x:α)(l:List α):((x::l)==[])=false:=rfl
theorem WL {s:Str}(h:(y5 s).2=true)(hp:(y5 s).1.pre≠[]) :
 y5 (s++[46,48])=cond (xr (qT (y5 s).1)) (qT (y5 s).1,true) (Ver.zero,false)∧yl (qT (y5 s).1)=cond (xr (qT (y5 s).1)) (s++[46,48]) []:=by
 obtain⟨hm,ht,ho,hs⟩:=wP h
 generalize (y5 s).1=v at *
 have hmk:ub (s++[46,48])=some (qT v):=by
  unfold ub at hm ⊢
  have he:=lk 45 s
  have hn:=ae 45 s
  cases hc:(yI 45 s).2.2 with
  | false =>
   rw[hc]at hm
   split at hm
   · cases hm;exact absurd rfl hp
   · cases hm
  | true =>
   rw[hc]at hm he
   simp only[cond_true]at he
   have h2:yI 45 (s++[46,48])=((yI 45 s).1,(yI 45 s).2.1++[46,48],true):=by
    conv=>lhs;rw[he]
    rw[List.append_assoc,List.cons_append]
    exact af 45 _ _ hn
   rw[h2]
   simp only
   split at hm
   · cases hm
     simp only[cond_true]
     rw[show (yI 45 s).2.1++[46,48]=(yI 45 s).2.1++46::[48] from rfl,ab]
     rfl
   · cases hm
 have htx:yl (qT v)=cond (xr (qT v)) (s++[46,48]) []:=by
  have ht':=ht
  unfold yl at ht' ⊢
  rw[ho]at ht'
  simp only[cond_true]at ht'
  congr 1
  rw[← ht']
  cases hv:v.pre with
  | nil=>exact absurd hv hp
  | cons x l =>
   show vx (tm v) (v.pre++[[48]])=_
   rw[hv]
   exact Ww _ x l
 refine⟨?_,htx⟩
 unfold y5
 rw[hmk]
 simp only
 rw[htx]
 cases hk:xr (qT v) with
 | true=>simp
 | false =>
  simp only[cond_false]
  have:(([]:Str)==s++[46,48])=false:=by rw[beq_eq_false_iff_ne];intro e;have:=congrArg List.length e;simp at this
  rw[this];rfl
def wF (a b c:Int):Str:=yl ⟨a,b,c,[[48]]⟩
def jr (v:Ver):Str:=cond (v.pre==[]) (wF v.maj v.min (v.pat+1)) (yl (qT v))
def vE (s:Str):Option (Str×Str):=cond ((y5 s).2&&!(jr (y5 s).1==[])) (some (s,jr (y5 s).1)) none
def upV (v:Ver)(part:Int):Ver:=cond (part==0) ⟨v.maj+1,0,0,[]⟩ (cond (part==1) ⟨v.maj,v.min+1,0,[]⟩ ⟨v.maj,v.min,cond (v.pre==[]) (v.pat+1) v.pat,[]⟩)
def u9 (v:Ver)(part:Int):Ver:=cond (!(xr v)||!(B2 part 0 2)) v (cond (xr (upV v part)) (upV v part) v)
def u6 (a b:Int):Int:=cond (decide (a<b)) (-1) (cond (decide (a > b)) 1 0)
def aM (a b:Str):Int:=cond (Op.bytesLess a b) (-1) (cond (!(Op.bytesLess a b||a==b)) 1 0)
def sj (a b:Str):Int:=cond (decide (zT a≥0)&&decide (zT b≥0)) (u6 (zT a) (zT b)) (cond (decide (zT a≥0)) (-1) (cond (decide (zT b≥0)) 1 (aM a b)))
def qA:List Str→List Str→Option Int
 | a::l,b::m=>cond (sj a b==0) (qA l m) (some (sj a b))
 | _,_=>none
def uN (a b:List Str):Int:=(qA a b).getD (u6 (a.length:Int) (b.length:Int))
def aL (a b:Ver):Int :=
 cond (u6 a.maj b.maj==0) (cond (u6 a.min b.min==0) (cond (u6 a.pat b.pat==0)
  (cond (a.pre==[]||b.pre==[]) (u6 (b.pre.length:Int) (a.pre.length:Int)) (uN a.pre b.pre))
  (u6 a.pat b.pat)) (u6 a.min b.min)) (u6 a.maj b.maj)
theorem tY (a b:Int):(u6 a b==0)=(a==b):=by
 unfold u6
 by_cases h1:a<b
 · simp[h1];omega
 · by_cases h2 : a > b
   · simp[h1,h2];omega
   · simp[h1,h2];omega
theorem sh (a b c a' b' c':Int):(aL ⟨a,b,c,[]⟩ ⟨a',b',c',[]⟩==0)=(a==a'&&(b==b'&&c==c')):=by
 unfold aL
 simp only[tY]
 cases h1:(a==a') with
 | false=>simp only[cond_false];rw[tY,h1];rfl
 | true =>
  cases h2:(b==b') with
  | false=>simp only[cond_true,cond_false];rw[tY,h2];rfl
  | true =>
   cases h3:(c==c') with
   | false=>simp only[cond_true,cond_false];rw[tY,h3];rfl
   | true=>rfl
def xN (v:Ver):Ver:=⟨v.maj,v.min,v.pat,[]⟩
def jm (v:Ver)(part:Int):Str×Bool:=cond (aL (u9 (xN v) part) (xN v)==0) ([],false) (yl ⟨(u9 (xN v) part).maj,(u9 (xN v) part).min,(u9 (xN v) part).pat,[[48]]⟩,true)
theorem QZ:sr [48]=true:=by
 unfold sr
 have h1:([48]:Str).all preB=true:=by decide
 have h2:decide (0≤zT [48])=true:=by
  have:=(ik (u:=0) (by omega)).1
  rw[show Lib.decDigits 0=[48] by rw[Lib.decDigits_one (by omega)];rfl]at this
  rw[this];rfl
 rw[h1,h2];simp
theorem aO (v:Ver):xr (xN v)=(n9 v.maj&&(n9 v.min&&n9 v.pat)):=by simp[xr,xN]
theorem sw (a b c:Int):xr ⟨a,b,c,[[48]]⟩=(n9 a&&(n9 b&&n9 c)):=by simp[xr,QZ]
theorem qY (a b c:Int):(wF a b c==[]) = !(n9 a&&(n9 b&&n9 c)):=by
 unfold wF yl
 rw[sw]
 cases (n9 a&&(n9 b&&n9 c)) with
 | false=>rfl
 | true=>simp[vx,tm]
theorem S7 {v:Ver}(ho:xr v=true)(part:Int)(hp:part=0∨part=1∨part=2) :
 jm v part=(let h:=wF (cond (part==0) (v.maj+1) v.maj) (cond (part==0) 0 (cond (part==1) (v.min+1) v.min)) (cond (part==2) (v.pat+1) 0);(h,!(h==[]))):=by
 obtain⟨h1,h2,h3,_,_⟩:=tN ho
 have hb:xr (xN v)=true:=by
  rw[aO];simp only[Bool.and_eq_true,jk];exact⟨h1,h2,h3⟩
 have n1:n9 v.maj=true:=(jk _).2 h1
 have n2:n9 v.min=true:=(jk _).2 h2
 have n3:n9 v.pat=true:=(jk _).2 h3
 have n0:n9 0=true:=by decide
 unfold jm u9
 rw[hb]
 rcases hp with rfl | rfl | rfl
 · have e : upV (xN v) 0 = ⟨v.maj + 1, 0, 0, []⟩ := rfl
   rw[e]
   simp only[Bool.not_true,Bool.false_or,show B2 0 0 2=true from rfl,cond_false]
   rw[show xr ⟨v.maj+1,0,0,[]⟩=n9 (v.maj+1) by simp[xr,n0]]
   simp only[show ((0:Int)==0)=true from rfl,cond_true,show ((0:Int)==2)=false from rfl,cond_false]
   rw[qY,n0]
   cases hn:n9 (v.maj+1) with
   | true =>
    have:(v.maj+1==v.maj)=false:=by rw[beq_eq_false_iff_ne];omega
    simp only[cond_true,xN,sh,this]
    simp[wF]
   | false =>
    simp[sh,wF,yl,sw,hn,xN]
 · have e : upV (xN v) 1 = ⟨v.maj, v.min + 1, 0, []⟩ := rfl
   rw[e]
   simp only[Bool.not_true,Bool.false_or,show B2 1 0 2=true from rfl,cond_false]
   rw[show xr ⟨v.maj,v.min+1,0,[]⟩=n9 (v.min+1) by simp[xr,n0,n1]]
   simp only[show ((1:Int)==0)=false from rfl,show ((1:Int)==1)=true from rfl,cond_true,show ((1:Int)==2)=false from rfl,cond_false]
   rw[qY,n0,n1]
   cases hn:n9 (v.min+1) with
   | true =>
    have:(v.min+1==v.min)=false:=by rw[beq_eq_false_iff_ne];omega
    simp only[cond_true,xN,sh,this]
    simp[wF]
   | false =>
    simp[sh,wF,yl,sw,hn,xN]
 · have e : upV (xN v) 2 = ⟨v.maj, v.min, v.pat + 1, []⟩ := rfl
   rw[e]
   simp only[Bool.not_true,Bool.false_or,show B2 2 0 2=true from rfl,cond_false]
   rw[show xr ⟨v.maj,v.min,v.pat+1,[]⟩=n9 (v.pat+1) by simp[xr,n1,n2]]
   simp only[show ((2:Int)==0)=false from rfl,show ((2:Int)==1)=false from rfl,cond_true,show ((2:Int)==2)=true from rfl,cond_false]
   rw[qY,n1,n2]
   cases hn:n9 (v.pat+1) with
   | true =>
    have:(v.pat+1==v.pat)=false:=by rw[beq_eq_false_iff_ne];omega
    simp only[cond_true,xN,sh,this]
    simp[wF]
   | false =>
    simp[sh,wF,yl,sw,hn,xN]
theorem lV:∀ (k u:Nat),1≤k→u<10 ^ k→Lib.nDigits u≤k
 | 0,u,h,_=>by omega
 | k + 1, u, _, h => by
  rw[Lib.nDigits]
  split
  · omega
  · have h10 : u / 10 < 10 ^ k := by rw [Nat.pow_succ] at h; omega
    have hk:1≤k:=by
     rcases Nat.eq_zero_or_pos k with rfl | h
     · simp at h10;omega
     · exact h
    have:=lV k (u / 10) hk h10
    omega
theorem vL (n:Int)(h0:0≤n)(h1:n≤999999999):(Lib.itoa n).length≤9:=by
 obtain⟨u,rfl⟩:∃ u:Nat,n=u:=⟨n.toNat,by omega⟩
 rw[Lib.itoa_nonneg,Lib.decDigits_length]
 exact lV 9 u (by omega) (by omega)
theorem eJ (n:Int)(h0:0≤n)(h1:n≤999999999):zu (EV Tryz.prog pol) 189 [.t (.int .i64 n)]=some (.t (.str (Lib.itoa n))):=by
 have h:=Mc n (by omega) (by omega)
 apply zx
 refine zy rfl Tryz.func189 rfl (by kernel_rfl) ?_
 unfold Tryz.f189
 simp only[↓GO,↓DRW,GA,GX,ren,zk,za,refs,z8,cst,zr,isC,bin,una,z7,zd,blt,asArg,zg,zc,zf,z6,E.mkS,unN,ze,zm,zb,GS,simprocAttr,h]
def XU (m:Nat):Str:=if m=0 then [] else Lib.decDigits m
theorem Vd (m:Nat)(h:m≠0):XU m=XU (m / 10)++[UInt8.ofNat (48+m % 10)]:=by
 unfold XU
 rw[if_neg h]
 by_cases h10:m<10
 · rw[if_pos (by omega),Lib.decDigits_one h10,show m % 10=m by omega];rfl
 · rw [if_neg (by omega)]
   conv=>lhs;rw[Lib.decDigits]
   rw[dif_neg h10]
theorem TI (d:Nat)(h:d<10):(List.drop d [48,49,50,51,52,53,54,55,56,57]).take (d+1 - d)=[UInt8.ofNat (48+d)]:=by
 have:d=0∨d=1∨d=2∨d=3∨d=4∨d=5∨d=6∨d=7∨d=8∨d=9:=by omega
 rcases this with rfl | rfl | rfl | rfl | rfl | rfl | rfl | rfl | rfl | rfl<;>rfl
theorem OV (n:Int):∀ (N m:Nat) (out:Str),m≤N→m≤999999999→out.length+m≤1000000000 →
 EV Tryz.prog pol (.loop 205 124 0 [.t (.int .i64 n),.t (.str out),.t (.int .i64 (m:Int))] [])
 = some (.loop (.exit 0) [.t (.int .i64 n),.t (.str (XU m++out))] [])
 | N,0,out,h,h1,h2=>by
  refine zo Tryz.func205 rfl rfl ?_
  simp only[↓GO,↓DRW,GA,GX,ren,zk,za,refs,z8,cst,zr,isC,bin,una,z7,zd,blt,asArg,zg,zc,zf,z6,E.mkS,unN,ze,zm,zb,GS,simprocAttr,Int.natCast_zero,bne_self_eq_false,XU,if_true]
 | 0,m+1,out,h,h1,h2=>by omega
 | N+1,m+1,out,h,h1,h2=>by
  generalize hm:m+1=x at *
  have c:(((x:Nat):Int)==0)=false:=by simp;omega
  have e1:((x:Nat):Int).tmod 10=((x % 10:Nat):Int):=(Int.ofNat_tmod x 10).symm
  have e2:((x:Nat):Int).tdiv 10=((x / 10:Nat):Int):=(Int.ofNat_tdiv x 10).symm
  have hd:x % 10<10:=Nat.mod_lt _ (by omega)
  have c2:decide (((x % 10:Nat):Int)<0)=false:=by simp only[decide_eq_false_iff_not];omega
  have hdig:=TI (x % 10) hd
  have IH:=OV n N (x / 10) (UInt8.ofNat (48+x % 10)::out) (by omega) (by omega) (by simp only[List.length_cons];omega)
  rw[Vd x (by omega),List.append_assoc]
  rw[show [UInt8.ofNat (48+x % 10)]++out=UInt8.ofNat (48+x % 10)::out from rfl]
  generalize UInt8.ofNat (48+x % 10)=bd at *
  have w1:IntKind.i64.wrap (((x % 10:Nat):Int)+1)=((x % 10+1:Nat):Int):=by rw[zq (by omega)];omega
  have w2:IntKind.i64.wrap ((x / 10:Nat):Int)=((x / 10:Nat):Int):=zq (by omega)
  generalize x % 10=xd at *
  generalize x / 10=xq at *
  refine zo Tryz.func205 rfl rfl ?_
  simp (disch:=((try simp only[LL]);omega)) only[↓GO,↓DRW,GA,GX,ren,zk,za,refs,z8,cst,zr,isC,bin,una,z7,zd,blt,asArg,zg,zc,zf,z6,E.mkS,unN,ze,zm,zb,GS,simprocAttr,bne,c,e1,e2,c2,w1,w2,hdig,ya,IH]
theorem eI (n:Int)(h0:0≤n)(h1:n≤999999999):zu (EV Tryz.prog pol) 205 [.t (.int .i64 n)]=some (.t (.str (Lib.itoa n))):=by
 obtain⟨u,rfl⟩:∃ u:Nat,n=u:=⟨n.toNat,by omega⟩
 have IH:=OV u u u [] (Nat.le_refl _) (by omega) (by simp;omega)
 rw[List.append_nil]at IH
 rw[Lib.itoa_nonneg]
 have c2:decide ((u:Int)<0)=false:=by simp only[decide_eq_false_iff_not];omega
 apply zx
 refine zy rfl Tryz.func205 rfl (by kernel_rfl) ?_
 unfold Tryz.f205
 by_cases hu:u=0
 · subst hu
   rw[show Lib.decDigits 0=[48] by rw[Lib.decDigits_one (by omega)];rfl]
   simp only[↓GO,↓DRW,GA,GX,ren,zk,za,refs,z8,cst,zr,isC,bin,una,z7,zd,blt,asArg,zg,zc,zf,z6,E.mkS,unN,ze,zm,zb,GS,simprocAttr,Int.natCast_zero]
 · have c : ((u : Int) == 0) = false := by simp; omega
   rw[show Lib.decDigits u=XU u by simp[XU,hu]]
   simp only[↓GO,↓DRW,GA,GX,ren,zk,za,refs,z8,cst,zr,isC,bin,una,z7,zd,blt,asArg,zg,zc,zf,z6,E.mkS,unN,ze,zm,zb,GS,simprocAttr,c,IH,c2]
theorem Yn (c:UInt8):B2 (c.toNat:Int) 48 57=isD c:=by
 unfold B2 isD
 congr 1<;>rw[decide_eq_decide]<;>omega
theorem Wr (s:Str)(hl:s.length≤281474976710656):zu (EV Tryz.prog pol) 127 [.t (.str s)]=some (.t (.int .i64 (zT s))):=by
 have hat:=Mk s hl
 apply zx
 refine zy rfl Tryz.func127 rfl (by kernel_rfl) ?_
 unfold Tryz.f127
 unfold zT
 cases ha:Lib.atoiAll s with
 | range=>rw[ha]at hat;simp only at hat ⊢;simp (disch:=((try simp only[LL]);omega)) only[↓GO,↓DRW,GA,GX,ren,zk,za,refs,z8,cst,zr,isC,bin,una,z7,zd,blt,asArg,zg,zc,zf,z6,E.mkS,unN,ze,zm,zb,GS,simprocAttr,hat]
 | ok v =>
  rw[ha]at hat
  simp only at hat ⊢
  have hw:=wO v 0 999999999
  rw[show B2 v 0 999999999=(decide (0≤v)&&decide (v≤999999999)) from rfl]at hw
  cases hb:(decide (0≤v)&&decide (v≤999999999)) with
  | false=>rw[hb]at hw;simp (disch:=((try simp only[LL]);omega)) only[↓GO,↓DRW,GA,GX,ren,zk,za,refs,z8,cst,zr,isC,bin,una,z7,zd,blt,asArg,zg,zc,zf,z6,E.mkS,unN,ze,zm,zb,GS,simprocAttr,hat,hw]
  | true =>
   rw[hb]at hw
   simp only[Bool.and_eq_true,decide_eq_true_eq]at hb
   have hd:=eJ v hb.1 hb.2
   cases he:(Lib.itoa v==s)<;>simp (disch:=((try simp only[LL]);omega)) only[↓GO,↓DRW,GA,GX,ren,zk,za,refs,z8,cst,zr,isC,bin,una,z7,zd,blt,asArg,zg,zc,zf,z6,E.mkS,unN,ze,zm,zb,GS,simprocAttr,bne,hat,hw,hd,he]
 | _=>rw[ha]at hat;simp only at hat ⊢;simp (disch:=((try simp only[LL]);omega)) only[↓GO,↓DRW,GA,GX,ren,zk,za,refs,z8,cst,zr,isC,bin,una,z7,zd,blt,asArg,zg,zc,zf,z6,E.mkS,unN,ze,zm,zb,GS,simprocAttr,hat]
theorem OL (s:Str)(hl:s.length≤9):∀ (rest pre:Str),s=pre++rest→pre.all isD=true →
 ∃ m:V,EV Tryz.prog pol (.loop 183 58 0 [.t (.str s),.t (.int .i64 (tL 0 pre:Nat)),.t (.int .i64 (pre.length:Int))] [])
 = some (cond (rest.all isD) (.loop (.exit 0) [.t (.str s),.bad,.t (.int .i64 (tL 0 s:Nat))] []) (.loop .ret [.t (.str s),.t (.int .i64 (-1)),m] []))
 | [],pre,hs,hd=>by
  have c:decide ((pre.length:Int)<(s.length:Int))=false:=by simp[hs]
  have hp:s=pre:=by simpa using hs
  refine⟨.bad,zo Tryz.func183 rfl rfl ?_⟩
  simp only[↓GO,↓DRW,GA,GX,ren,zk,za,refs,z8,cst,zr,isC,bin,una,z7,zd,blt,asArg,zg,zc,zf,z6,E.mkS,unN,ze,zm,zb,GS,simprocAttr,c]
  rw[hp]
 | b :: rest, pre, hs, hd => by
  have c:decide ((pre.length:Int)<(s.length:Int))=true:=by simp[hs];omega
  have hget:s[pre.length]? = some b:=by rw[hs];exact sT pre b rest
  have hlen:s.length=pre.length+rest.length+1:=by rw[hs];simp;omega
  have hin:=wG (b.toNat:Int) 48 57
  rw[Yn]at hin
  have c9:decide ((s.length:Int) > 9)=false:=by simp only[decide_eq_false_iff_not];omega
  have hv:=l0 pre 0 hd
  have hp10:(10:Nat) ^ pre.length≤10 ^ 9:=Nat.pow_le_pow_right (by omega) (by omega)
  have e9:(10:Nat) ^ 9=1000000000:=by decide
  have hb8:=Qb b
  cases hb:isD b with
  | false =>
   rw[hb]at hin
   refine⟨.t (.int .i64 (tL 0 pre:Nat)),zo Tryz.func183 rfl rfl ?_⟩
   clear hs hlen
   simp (disch:=omega) only[↓GO,↓DRW,GA,GX,ren,zk,za,refs,z8,cst,zr,isC,bin,una,z7,zd,blt,asArg,zg,zc,zf,z6,E.mkS,unN,ze,zm,zb,GS,simprocAttr,c,hget,zq,conv,wrap_u8,hin,List.all_cons,hb]
  | true =>
   rw[hb]at hin
   have hd2:(pre++[b]).all isD=true:=by rw[List.all_append,hd];simp[hb]
   obtain⟨m,IH⟩:=OL s hl rest (pre++[b]) (by rw[hs];simp) hd2
   have hbb:=(oS b).1 hb
   have hst:((tL 0 (pre++[b]):Nat):Int)=10*((tL 0 pre:Nat):Int)+(b.toNat:Int) - 48:=by
    rw[jU,pG];omega
   rw[hst,show ((pre++[b]).length:Int)=(pre.length:Int)+1 by simp]at IH
   have hpl:pre.length≤9:=by omega
   generalize tL 0 pre=vp at *
   generalize tL 0 s=vs at *
   clear hs hlen hst
   refine⟨m,zo Tryz.func183 rfl rfl ?_⟩
   simp (disch:=omega) only[↓GO,↓DRW,GA,GX,ren,zk,za,refs,z8,cst,zr,isC,bin,una,z7,zd,blt,asArg,zg,zc,zf,z6,E.mkS,unN,ze,zm,zb,GS,simprocAttr,c,hget,zq,conv,wrap_u8,hin,List.all_cons,hb,c9,IH]
theorem l_rdL (s:Str)(h9:9<s.length)(hl:s.length≤281474976710656) :
 EV Tryz.prog pol (.loop 183 58 0 [.t (.str s),.t (.int .i64 0),.t (.int .i64 0)] [])=some (.loop .ret [.t (.str s),.t (.int .i64 (-1)),.t (.int .i64 0)] []):=by
 cases s with
 | nil=>simp at h9
 | cons b r =>
  have c:decide ((0:Int)<((b::r).length:Int))=true:=by simp only[decide_eq_true_eq];omega
  have c9:decide (((b::r).length:Int) > 9)=true:=by simp only[decide_eq_true_eq];omega
  have hget:(b::r)[0]? = some b:=rfl
  have hin:=wG (b.toNat:Int) 48 57
  rw[Yn]at hin
  have hb8:=Qb b
  generalize (b::r)=s at *
  refine zo Tryz.func183 rfl rfl ?_
  cases hb:isD b with
  | false=>rw[hb]at hin;simp (disch:=omega) only[↓GO,↓DRW,GA,GX,ren,zk,za,refs,z8,cst,zr,isC,bin,una,z7,zd,blt,asArg,zg,zc,zf,z6,E.mkS,unN,ze,zm,zb,GS,simprocAttr,c,uM,hget,zq,conv,wrap_u8,hin]
  | true=>rw[hb]at hin;simp (disch:=omega) only[↓GO,↓DRW,GA,GX,ren,zk,za,refs,z8,cst,zr,isC,bin,una,z7,zd,blt,asArg,zg,zc,zf,z6,E.mkS,unN,ze,zm,zb,GS,simprocAttr,c,uM,hget,zq,conv,wrap_u8,hin,c9]
theorem fF (s:Str)(hl:s.length≤281474976710656):zu (EV Tryz.prog pol) 183 [.t (.str s)]=some (.t (.int .i64 (zT s))):=by
 rw[← Wz]
 apply zx
 refine zy rfl Tryz.func183 rfl (by kernel_rfl) ?_
 unfold Tryz.f183
 unfold qu
 by_cases h9:s.length≤9
 · obtain ⟨m, IH⟩ := OL s h9 s [] rfl rfl
   simp only[List.length_nil,Int.natCast_zero,kB]at IH
   have e9:decide (s.length≤9)=true:=by simpa using h9
   have hv:=l0 s 0
   have hp10:(10:Nat) ^ s.length≤10 ^ 9:=Nat.pow_le_pow_right (by omega) h9
   have e10:(10:Nat) ^ 9=1000000000:=by decide
   cases ha:s.all isD with
   | false=>rw[ha]at IH;simp only[cond_false]at IH;simp (disch:=((try simp only[LL]);omega)) only[↓GO,↓DRW,GA,GX,ren,zk,za,refs,z8,cst,zr,isC,bin,una,z7,zd,blt,asArg,zg,zc,zf,z6,E.mkS,unN,ze,zm,zb,GS,simprocAttr,IH]
   | true =>
    rw[ha]at IH;simp only[cond_true]at IH
    have hv':=hv ha
    have hd:=eI (tL 0 s:Nat) (by omega) (by omega)
    cases hn:(s==[]) with
    | true=>simp (disch:=((try simp only[LL]);omega)) only[↓GO,↓DRW,GA,GX,ren,zk,za,refs,z8,cst,zr,isC,bin,una,z7,zd,blt,asArg,zg,zc,zf,z6,E.mkS,unN,ze,zm,zb,GS,simprocAttr,IH,e9,hn]
    | false =>
     cases he:(Lib.itoa (tL 0 s:Nat)==s)<;>simp (disch:=((try simp only[LL]);omega)) only[↓GO,↓DRW,GA,GX,ren,zk,za,refs,z8,cst,zr,isC,bin,una,z7,zd,blt,asArg,zg,zc,zf,z6,E.mkS,unN,ze,zm,zb,GS,simprocAttr,bne,IH,e9,hn,hd,he]
 · have e9 : decide (s.length ≤ 9) = false := by simpa using h9
   have IH:=l_rdL s (by omega) (by omega)
   simp (disch:=((try simp only[LL]);omega)) only[↓GO,↓DRW,GA,GX,ren,zk,za,refs,z8,cst,zr,isC,bin,una,z7,zd,blt,asArg,zg,zc,zf,z6,E.mkS,unN,ze,zm,zb,GS,simprocAttr,IH,e9]
theorem YS:∀ p s:Str,(decide ((s.length:Int)≥(p.length:Int))&&(s.take p.length==p))=p.isPrefixOf s
 | [],s=>by
  have:decide ((s.length:Int)≥(([]:Str).length:Int))=true:=by simp
  rw[this];simp[List.isPrefixOf]
 | a::p,[]=>by
  have:decide ((([]:Str).length:Int)≥((a::p).length:Int))=false:=by simp only[decide_eq_false_iff_not,List.length_cons,List.length_nil];omega
  rw[this];simp[List.isPrefixOf]
 | a :: p, b :: s => by
  have ih:=YS p s
  have e1:decide (((b::s).length:Int)≥((a::p).length:Int))=decide ((s.length:Int)≥(p.length:Int)):=by
   rw[decide_eq_decide];simp only[List.length_cons];omega
  rw[e1,List.isPrefixOf,← ih,List.length_cons,List.take_succ_cons]
  by_cases h:b=a
  · subst h
    have:(b::List.take p.length s==b::p)=(List.take p.length s==p):=by rw[Bool.eq_iff_iff];simp
    rw[this];simp
  · have h2 : (b :: List.take p.length s == a :: p) = false := by rw [beq_eq_false_iff_ne]; intro e; injection e with e1 e2; exact h e1
    have h3:(a==b)=false:=by rw[beq_eq_false_iff_ne];exact fun e=>h e.symm
    rw[h2,h3];simp
theorem gE (s p:Str)(hs:s.length≤9223372036854775807)(hp:p.length≤9223372036854775807):zu (EV Tryz.prog pol) 212 [.t (.str s),.t (.str p)]=some (.t (.bool (p.isPrefixOf s))):=by
 rw[← YS]
 apply zx
 refine zy rfl Tryz.func212 rfl (by kernel_rfl) ?_
 unfold Tryz.f212
 cases h:decide ((s.length:Int)≥(p.length:Int)) with
 | false=>simp (disch:=((try simp only[LL]);omega)) only[↓GO,↓DRW,GA,GX,ren,zk,za,refs,z8,cst,zr,isC,bin,una,z7,zd,blt,asArg,zg,zc,zf,z6,E.mkS,unN,ze,zm,zb,GS,simprocAttr,GZ,h]
 | true =>
  have h2:=of_decide_eq_true h
  simp (disch:=((try simp only[LL]);omega)) only[↓GO,↓DRW,GA,GX,ren,zk,za,refs,z8,cst,zr,isC,bin,una,z7,zd,blt,asArg,zg,zc,zf,z6,E.mkS,unN,ze,zm,zb,GS,simprocAttr,GZ,h]
theorem TV (s p:Str)(hs:s.length≤9223372036854775807)(hp:p.length≤9223372036854775807):zu (EV Tryz.prog pol) 169 [.t (.str s),.t (.str p)]=some (.t (.bool (p.isPrefixOf s))):=by
 have h:=gE s p hs hp
 apply zx
 refine zy rfl Tryz.func169 rfl (by kernel_rfl) ?_
 unfold Tryz.f169
 simp (disch:=((try simp only[LL]);omega)) only[↓GO,↓DRW,GA,GX,ren,zk,za,refs,z8,cst,zr,isC,bin,una,z7,zd,blt,asArg,zg,zc,zf,z6,E.mkS,unN,ze,zm,zb,GS,simprocAttr,GZ,h]
theorem cJ:∀ {p s:Str},p.isPrefixOf s=true→p.length≤s.length
 | [],s,_=>by simp
 | a::p,[],h=>by simp[List.isPrefixOf]at h
 | a::p,b::s,h=>by
  simp only[List.isPrefixOf,Bool.and_eq_true]at h
  have:=cJ h.2
  simp only[List.length_cons];omega
theorem Zp (s p:Str)(hs:s.length≤9223372036854775807)(hp:p.length≤9223372036854775807):zu (EV Tryz.prog pol) 213 [.t (.str s),.t (.str p)]=some (.t (.str (cond (p.isPrefixOf s) (s.drop p.length) s))):=by
 have h:=gE s p hs hp
 apply zx
 refine zy rfl Tryz.func213 rfl (by kernel_rfl) ?_
 unfold Tryz.f213
 cases hb:p.isPrefixOf s with
 | false=>rw[hb]at h;simp (disch:=((try simp only[LL]);omega)) only[↓GO,↓DRW,GA,GX,ren,zk,za,refs,z8,cst,zr,isC,bin,una,z7,zd,blt,asArg,zg,zc,zf,z6,E.mkS,unN,ze,zm,zb,GS,simprocAttr,GZ,h]
 | true =>
  have h2:=cJ hb
  rw[hb]at h;simp (disch:=((try simp only[LL]);omega)) only[↓GO,↓DRW,GA,GX,ren,zk,za,refs,z8,cst,zr,isC,bin,una,z7,zd,blt,asArg,zg,zc,zf,z6,E.mkS,unN,ze,zm,zb,GS,simprocAttr,GZ,h]
theorem Vm (s p:Str)(hs:s.length≤9223372036854775807)(hp:p.length≤9223372036854775807):zu (EV Tryz.prog pol) 171 [.t (.str s),.t (.str p)]=some (.t (.str (cond (p.isPrefixOf s) (s.drop p.length) s))):=by
 have h:=Zp s p hs hp
 apply zx
 refine zy rfl Tryz.func171 rfl (by kernel_rfl) ?_
 unfold Tryz.f171
 simp (disch:=((try simp only[LL]);omega)) only[↓GO,↓DRW,GA,GX,ren,zk,za,refs,z8,cst,zr,isC,bin,una,z7,zd,blt,asArg,zg,zc,zf,z6,E.mkS,unN,ze,zm,zb,GS,simprocAttr,GZ,h]
theorem QI (s:Str):cond (([64]:Str).isPrefixOf s) (s.drop ([64]:Str).length) s=xG s:=by
 cases s with
 | nil=>rfl
 | cons x s =>
  by_cases h:x=64
  · subst h;simp[List.isPrefixOf,xG]
  · have : (64 == x) = false := by rw [beq_eq_false_iff_ne]; exact fun e => h e.symm
    simp[List.isPrefixOf,xG,h,this]
theorem PZ (b:UInt8):zu (EV Tryz.prog pol) 173 [.t (.int .u8 (b.toNat:Int))]=some (.t (.bool (tj b))):=by
 have h1:=gD (b.toNat:Int)
 have h2:=nR (b.toNat:Int)
 apply zx
 refine zy rfl Tryz.func173 rfl (by kernel_rfl) ?_
 unfold Tryz.f173
 simp only[tj,nb]
 generalize hx:B2 (b.toNat:Int) 97 122=x1 at *
 generalize hy:B2 (b.toNat:Int) 48 57=x2 at *
 repeat' (first | (((first | with_reducible refine mc (fun hA=>?_) (fun hA=>?_) | with_reducible refine nY (fun hA=>?_) (fun hA=>?_))<;>(try simp only[bne,Bool.not_eq_true',Bool.not_eq_false']at hA)<;>(first | (have hP:=Int.le_of_eq (eq_of_beq (α:=Int) hA);have hQ:=Int.le_of_eq (eq_of_beq (α:=Int) hA).symm) | have hP:=of_decide_eq_true hA | have hP:=of_decide_eq_false hA | skip))<;>(simp (disch:=((try simp only[LL]);omega)) only[↓GO,↓DRW,GA,GX,ren,zk,za,refs,z8,cst,zr,isC,bin,una,z7,zd,blt,asArg,zg,zc,zf,z6,E.mkS,unN,ze,zm,zb,GS,simprocAttr,zq,bne, *])) | (simp (disch:=((try simp only[LL]);omega)) only[↓GO,↓DRW,GA,GX,ren,zk,za,refs,z8,cst,zr,isC,bin,una,z7,zd,blt,asArg,zg,zc,zf,z6,E.mkS,unN,ze,zm,zb,GS,simprocAttr,zq,bne, *]))
theorem lC (b:UInt8)(s:Str):jh s [b]=xu b s:=by
 rw[← jY]
 unfold jh Lib.split Lib.countB
 rw[Lib.splitB_data]
theorem uI (x:Str)(l:List Str):strs (x::l)=[.str x]::strs l:=rfl
theorem o8 (a b:List Str):strs (a++b)=strs a++strs b:=by simp[strs]
theorem yM:strs []=[]:=rfl
theorem vK (pre:List Str)(x:Str)(rest:List Str):(strs (pre++x::rest))[pre.length]? = some [.str x]:=by
 rw[o8,uI]
 have:=sT (strs pre) [T.str x] (strs rest)
 rwa [zi]at this
theorem Xq (s:Str)(sc:Bool)(parts:List Str)(hl:parts.length≤4294967296)(hb:∀ p∈parts,p.length≤4294967296):∀ (rest pre:List Str),parts=pre++rest →
 EV Tryz.prog pol (.loop 112 58 0 [.t (.str s),.t (.bool sc),.t (.list 1 (strs parts)),.t (.int .i64 (parts.length:Int)),.t (.int .i64 (pre.length:Int))] [])=some (cond (tc (sc&&((pre.length:Int)==0)) rest) (.loop (.exit 0) [.t (.str s),.bad] []) (.loop .ret [.t (.str s),.t (.bool false)] []))
 | [],pre,hs=>by
  have c:decide ((pre.length:Int)<(parts.length:Int))=false:=by simp[hs]
  refine zo Tryz.func112 rfl rfl ?_
  simp only[↓GO,↓DRW,GA,GX,ren,zk,za,refs,z8,cst,zr,isC,bin,una,z7,zd,blt,asArg,zg,zc,zf,z6,E.mkS,unN,ze,zm,zb,GS,simprocAttr,c,tc]
 | x :: rest, pre, hs => by
  have c:decide ((pre.length:Int)<(parts.length:Int))=true:=by simp[hs];omega
  have hget:(strs parts)[pre.length]? = some [.str x]:=by rw[hs];exact vK pre x rest
  have hlen:pre.length+rest.length+1≤parts.length:=by rw[hs];simp;omega
  have hx:x.length≤4294967296:=hb x (by rw[hs];simp)
  have IH:=Xq s sc parts hl hb rest (pre++[x]) (by rw[hs];simp)
  have hc:=Wt 173 tj PZ x (by omega)
  rw[show ((pre++[x]).length:Int)=(pre.length:Int)+1 by simp]at IH
  have e0:(((pre.length:Int)+1==0))=false:=by rw[beq_eq_false_iff_ne];omega
  rw[e0,Bool.and_false]at IH
  clear hs hb
  refine zo Tryz.func112 rfl rfl ?_
  rw[tc]
  have hN:(x==qD)=(x==[110,111,100,101,95,109,111,100,117,108,101,115]):=rfl
  rw[hN]
  cases ha:x.all tj<;>rw[ha]at hc<;>cases h1:(x==[])<;>cases h2:(x==[110,111,100,101,95,109,111,100,117,108,101,115])<;>cases sc<;>cases h3:((pre.length:Int)==0) <;>
   simp (disch:=((try simp only[LL]);omega)) only[↓GO,↓DRW,GA,GX,ren,zk,za,refs,z8,cst,zr,isC,bin,una,z7,zd,blt,asArg,zg,zc,zf,z6,E.mkS,unN,ze,zm,zb,GS,simprocAttr,GZ,c,hget,zq,hc,h1,h2,h3,IH,zi]
theorem PY (s:Str)(hl:s.length≤1048576):zu (EV Tryz.prog pol) 112 [.t (.str s)]=some (.t (.bool (rS s))):=by
 have h1:=TV s [64] (by omega) (by simp)
 have h2:=Vm s [64] (by omega) (by simp)
 rw[QI]at h2
 have ht:(xG s).length≤s.length:=by
  unfold xG;split
  · simp
  · split
    · simp
    · simp
 have hbk:=u5 47 (xG s)
 have h3:=eu (xG s) [47] (by omega) (by simp)
 rw[lC]at h3
 have IH:=Xq s (mS s) (xu 47 (xG s)) (by omega) (fun p hp=>by have:=uY hp;omega) _ [] rfl
 rw[show (([64]:Str).isPrefixOf s)=mS s from rfl]at h1
 simp only[List.length_nil,Int.natCast_zero,show ((0:Int)==0)=true from rfl,Bool.and_true]at IH
 apply zx
 refine zy rfl Tryz.func112 rfl (by kernel_rfl) ?_
 unfold Tryz.f112
 unfold rS
 cases hp:tc (mS s) (xu 47 (xG s))<;>rw[hp]at IH<;>simp only[cond_true,cond_false]at IH <;>
  simp (disch:=((try simp only[LL]);omega)) only[↓GO,↓DRW,GA,GX,ren,zk,za,refs,z8,cst,zr,isC,bin,una,z7,zd,blt,asArg,zg,zc,zf,z6,E.mkS,unN,ze,zm,zb,GS,simprocAttr,GZ,h1,h2,h3,zi,IH]
theorem Yl (s:Str)(b:UInt8)(hl:s.length≤4294967296):∀ (rest cur pre:Str) (out:List Str) (cap:Option Nat) (m:Nat),s=pre++(cur++rest)→m=pre.length+cur.length→out.length≤m →
 ∃ (out':List Str) (fr:Nat) (cap':Option Nat),out'.length≤s.length∧fr≤s.length∧out'++[s.drop fr]=out++(match xu b rest with | p::r=>(cur++p)::r | []=>[]) ∧
  EV Tryz.prog pol (.loop 179 122 0 [.t (.str s),.t (.int .u8 (b.toNat:Int)),.sl 0 0 out.length cap,.t (.int .i64 (pre.length:Int)),.t (.int .i64 (m:Int))] [.ts 1 (strs out)])=some (.loop (.exit 0) [.t (.str s),.sl 0 0 out'.length cap',.t (.int .i64 (fr:Int))] [.ts 1 (strs out')])
 | [],cur,pre,out,cap,m,hs,hm,ho=>by
  have c:decide ((m:Int)<(s.length:Int))=false:=by simp[hs];omega
  have hn:s.length=pre.length+cur.length:=by rw[hs];simp
  refine⟨out,pre.length,cap,by omega,by omega,?_,?_⟩
  · simp only[xu,hs,List.append_nil,List.drop_left]
  · refine zo Tryz.func179 rfl rfl ?_
    simp only[↓GO,↓DRW,GA,GX,ren,zk,za,refs,z8,cst,zr,isC,bin,una,z7,zd,blt,asArg,zg,zc,zf,z6,E.mkS,unN,ze,zm,zb,GS,simprocAttr,c]
 | x :: rest, cur, pre, out, cap, m, hs, hm, ho => by
  have hn:s.length=pre.length+cur.length+rest.length+1:=by rw[hs];simp;omega
  have c:decide ((m:Int)<(s.length:Int))=true:=by simp only[decide_eq_true_eq];omega
  have hget:s[m]? = some x:=by
   rw[hs,hm,← List.append_assoc,← List.length_append];exact sT (pre++cur) x rest
  by_cases hx:x=b
  · subst hx
    have hcut:(s.drop pre.length).take (m - pre.length)=cur:=by
     rw[hs,hm,List.drop_left,show pre.length+cur.length - pre.length=cur.length by omega,List.take_left]
    obtain⟨out',fr,cap',q1,q2,q3,q4⟩:=Yl s x hl rest [] (pre++cur++[x]) (out++[cur]) none (m+1) (by rw[hs];simp) (by simp;omega) (by simp;omega)
    refine⟨out',fr,cap',q1,q2,?_,?_⟩
    · rw [q3, uX]
      cases hc:xu x rest with
      | nil=>exact absurd hc (qw x rest)
      | cons p r=>simp
    · rw [show ((pre ++ cur ++ [x]).length : Int) = (m : Int) + 1 by simp; omega, show ((m + 1 : Nat) : Int) = (m : Int) + 1 by omega] at q4
      rw[o8,uI,yM,List.length_append,List.length_cons,List.length_nil,Nat.zero_add]at q4
      have hol:out.length≤4294967296:=by omega
      clear hs q3
      refine zo Tryz.func179 rfl rfl ?_
      simp (disch:=((try simp only[LL]);omega)) only[↓GO,↓DRW,GA,GX,ren,zk,za,refs,z8,cst,zr,isC,bin,una,z7,zd,blt,asArg,zg,zc,zf,z6,E.mkS,unN,ze,zm,zb,GS,simprocAttr,GZ,c,hget,zq,hcut,q4,zi,ya]
  · have c2 : ((x.toNat : Int) == (b.toNat : Int)) = false := by
     rw[beq_eq_false_iff_ne];intro e;exact hx (UInt8.toNat_inj.1 (by omega))
    obtain⟨out',fr,cap',q1,q2,q3,q4⟩:=Yl s b hl rest (cur++[x]) pre out cap (m+1) (by rw[hs];simp) (by simp;omega) (by omega)
    refine⟨out',fr,cap',q1,q2,?_,?_⟩
    · rw [q3]
      cases hc:xu b rest with
      | nil=>exact absurd hc (qw b rest)
      | cons p r=>rw[vB b x rest p r hx hc];simp
    · rw [show ((m + 1 : Nat) : Int) = (m : Int) + 1 by omega] at q4
      clear hs q3
      refine zo Tryz.func179 rfl rfl ?_
      simp (disch:=((try simp only[LL]);omega)) only[↓GO,↓DRW,GA,GX,ren,zk,za,refs,z8,cst,zr,isC,bin,una,z7,zd,blt,asArg,zg,zc,zf,z6,E.mkS,unN,ze,zm,zb,GS,simprocAttr,GZ,c,hget,zq,c2,q4,zi,ya]
theorem Yw (s:Str)(b:UInt8)(hl:s.length≤4194304):zu (EV Tryz.prog pol) 179 [.t (.str s),.t (.int .u8 (b.toNat:Int))]=some (.t (.list 1 (strs (xu b s)))):=by
 obtain⟨out,fr,cap,q1,q2,q3,q4⟩:=Yl s b (by omega) s [] [] [] (some 0) 0 rfl rfl (by simp)
 simp only[List.nil_append,List.length_nil,Int.natCast_zero,yM]at q4 q3
 have e:(match xu b s with | p::r=>p::r | []=>[])=xu b s:=by cases xu b s<;>rfl
 rw[e]at q3
 have ho:(strs out++[[.str (List.drop fr s)]])=strs (xu b s):=by rw[← q3,o8];rfl
 have ht:List.take (out.length+1) (strs (xu b s))=strs (xu b s):=List.take_of_length_le (by rw[zi,← q3];simp)
 apply zx
 refine zy rfl Tryz.func179 rfl (by kernel_rfl) ?_
 unfold Tryz.f179
 simp (disch:=((try simp only[LL]);omega)) only[↓GO,↓DRW,GA,GX,ren,zk,za,refs,z8,cst,zr,isC,bin,una,z7,zd,blt,asArg,zg,zc,zf,z6,E.mkS,unN,ze,zm,zb,GS,simprocAttr,GZ,q4,zi,ya,ho,ht]
theorem rL (s:Str)(P:T)(i:T)(p:Str)(hl:p.length≤4294967296):∀ (rest pre:Str),p=pre++rest →
 EV Tryz.prog pol (.loop 115 59706 0 [.t (.str s),.t P,.t i,.t (.str p),.t (.int .i64 (pre.length:Int))] [])=some (cond (rest.all tj) (.loop (.exit 2) [.t (.str s),.bad,.t P,.t i,.t (.str p)] []) (.loop .ret [.t (.str s),.t (.bool false),.t P,.t i,.t (.str p)] []))
 | [],pre,hs=>by
  have c:decide ((pre.length:Int)<(p.length:Int))=false:=by simp[hs]
  refine zo Tryz.func115 rfl rfl ?_
  simp only[↓GO,↓DRW,GA,GX,ren,zk,za,refs,z8,cst,zr,isC,bin,una,z7,zd,blt,asArg,zg,zc,zf,z6,E.mkS,unN,ze,zm,zb,GS,simprocAttr,c]
 | b :: rest, pre, hs => by
  have c:decide ((pre.length:Int)<(p.length:Int))=true:=by simp[hs];omega
  have hget:p[pre.length]? = some b:=by rw[hs];exact sT pre b rest
  have hlen:p.length=pre.length+rest.length+1:=by rw[hs];simp;omega
  have IH:=rL s P i p hl rest (pre++[b]) (by rw[hs];simp)
  rw[show ((pre++[b]).length:Int)=(pre.length:Int)+1 by simp]at IH
  have hb:=mP b
  clear hs
  refine zo Tryz.func115 rfl rfl ?_
  rw[List.all_cons,tj]
  simp only[nb]at *
  cases h1:(B2 (b.toNat:Int) 97 122||B2 (b.toNat:Int) 48 57)<;>rw[h1]at hb<;>cases h2:((b.toNat:Int)==46)<;>cases h3:((b.toNat:Int)==95)<;>cases h4:((b.toNat:Int)==45) <;>
   simp (disch:=((try simp only[LL]);omega)) only[↓GO,↓DRW,GA,GX,ren,zk,za,refs,z8,cst,zr,isC,bin,una,z7,zd,blt,asArg,zg,zc,zf,z6,E.mkS,unN,ze,zm,zb,GS,simprocAttr,GZ,c,hget,zq,hb,h2,h3,h4,bne,IH]
theorem Xp (s:Str)(parts:List Str)(hl:parts.length≤4294967296)(hb:∀ p∈parts,p.length≤4294967296):∀ (rest pre:List Str),parts=pre++rest→pre≠[] →
 EV Tryz.prog pol (.loop 115 58 0 [.t (.str s),.t (.list 1 (strs parts)),.t (.int .i64 (pre.length:Int))] [])=some (cond (jq rest) (.loop (.exit 0) [.t (.str s),.bad] []) (.loop .ret [.t (.str s),.t (.bool false)] []))
 | [],pre,hs,_=>by
  have c:decide ((pre.length:Int)<(parts.length:Int))=false:=by simp[hs]
  refine zo Tryz.func115 rfl rfl ?_
  simp only[↓GO,↓DRW,GA,GX,ren,zk,za,refs,z8,cst,zr,isC,bin,una,z7,zd,blt,asArg,zg,zc,zf,z6,E.mkS,unN,ze,zm,zb,GS,simprocAttr,zi,c,jq]
 | x :: rest, pre, hs, hn => by
  have c:decide ((pre.length:Int)<(parts.length:Int))=true:=by simp[hs];omega
  have hget:(strs parts)[pre.length]? = some [.str x]:=by rw[hs];exact vK pre x rest
  have hlen:pre.length+rest.length+1≤parts.length:=by rw[hs];simp;omega
  have hx:x.length≤4294967296:=hb x (by rw[hs];simp)
  have IH:=Xp s parts hl hb rest (pre++[x]) (by rw[hs];simp) (by simp)
  have hin:=rL s (.list 1 (strs parts)) (.int .i64 (pre.length:Int)) x hx x [] rfl
  simp only[List.length_nil,Int.natCast_zero]at hin
  rw[show ((pre++[x]).length:Int)=(pre.length:Int)+1 by simp]at IH
  have e0:(((pre.length:Int)==0))=false:=by
   rw[beq_eq_false_iff_ne];intro h;apply hn;apply List.eq_nil_of_length_eq_zero;omega
  clear hs hb
  refine zo Tryz.func115 rfl rfl ?_
  rw[jq]
  have hN:(x==qD)=(x==[110,111,100,101,95,109,111,100,117,108,101,115]):=rfl
  rw[hN]
  cases ha:x.all tj<;>rw[ha]at hin<;>simp only[cond_true,cond_false]at hin<;>cases h1:(x==[])<;>cases h2:(x==[110,111,100,101,95,109,111,100,117,108,101,115]) <;>
   simp (disch:=((try simp only[LL]);omega)) only[↓GO,↓DRW,GA,GX,ren,zk,za,refs,z8,cst,zr,isC,bin,una,z7,zd,blt,asArg,zg,zc,zf,z6,E.mkS,unN,ze,zm,zb,GS,simprocAttr,GZ,c,hget,zq,hin,h1,h2,e0,IH,zi]
theorem Po (s:Str)(parts:List Str)(hl:parts.length≤4294967296)(hb:∀ p∈parts,p.length≤4294967296)(x:Str)(rest:List Str)(hs:parts=x::rest) :
 EV Tryz.prog pol (.loop 115 58 0 [.t (.str s),.t (.list 1 (strs parts)),.t (.int .i64 0)] [])=some (cond (pQ (x::rest)) (.loop (.exit 0) [.t (.str s),.bad] []) (.loop .ret [.t (.str s),.t (.bool false)] [])):=by
 have c:decide ((0:Int)<(parts.length:Int))=true:=by simp only[decide_eq_true_eq,hs,List.length_cons];omega
 have hget:(strs parts)[0]? = some [.str x]:=by rw[hs];rfl
 have hx:x.length≤4294967296:=hb x (by rw[hs];simp)
 have IH:=Xp s parts hl hb rest [x] hs (by simp)
 simp only[List.length_nil,List.length_cons,Nat.zero_add,Int.natCast_one]at IH
 have hN:(x==qD)=(x==[110,111,100,101,95,109,111,100,117,108,101,115]):=rfl
 rw[pQ,hN]
 clear hs hb hN
 cases x with
 | nil =>
  have hin:=rL s (.list 1 (strs parts)) (.int .i64 0) [] hx [] [] rfl
  simp only[List.length_nil,Int.natCast_zero,List.all_nil,cond_true]at hin
  have h2:(([]:Str)==[110,111,100,101,95,109,111,100,117,108,101,115])=false:=rfl
  have h3:(([]:Str)==[])=true:=rfl
  have h4:xG []=[]:=rfl
  refine zo Tryz.func115 rfl rfl ?_
  simp (disch:=((try simp only[LL]);omega)) only[↓GO,↓DRW,GA,GX,ren,zk,za,refs,z8,cst,zr,isC,bin,una,z7,zd,blt,asArg,zg,zc,zf,z6,E.mkS,unN,ze,zm,zb,GS,simprocAttr,GZ,c,hget,zq,hin,zi,h2,h3,h4,Int.natCast_zero]
 | cons y t =>
  have hlt:decide (((y::t).length:Int) > 0)=true:=by simp only[decide_eq_true_eq,List.length_cons];omega
  have hg0:(y::t)[0]? = some y:=rfl
  have hyl:1≤(y::t).length:=by simp
  by_cases h64:y=64
  · subst h64
    have hin2:=rL s (.list 1 (strs parts)) (.int .i64 0) t (by simp only[List.length_cons]at hx;omega) t [] rfl
    simp only[List.length_nil,Int.natCast_zero]at hin2
    have e1:(((64:UInt8)::t)==[110,111,100,101,95,109,111,100,117,108,101,115])=false:=by simp
    have e2:xG (64::t)=t:=by simp[xG]
    have e3:(((64:UInt8)).toNat:Int)=64:=rfl
    have hd:List.drop 1 ((64:UInt8)::t)=t:=rfl
    rw[e2]
    generalize hy:(64:UInt8)::t=yy at *
    cases ha:t.all tj<;>rw[ha]at hin2<;>simp only[cond_true,cond_false]at hin2<;>cases h1:(t==[]) <;>
     refine zo Tryz.func115 rfl rfl ?_<;>simp (disch:=((try simp only[LL]);omega)) only[↓GO,↓DRW,GA,GX,ren,zk,za,refs,z8,cst,zr,isC,bin,una,z7,zd,blt,asArg,zg,zc,zf,z6,E.mkS,unN,ze,zm,zb,GS,simprocAttr,GZ,c,hget,zq,hin2,zi,e1,e3,hlt,hg0,hd,h1,IH,Int.zero_add]
  · have e2 : xG (y :: t) = y :: t := by simp [xG, h64]
    have e3:((y.toNat:Int)==64)=false:=by
     rw[beq_eq_false_iff_ne];intro h;exact h64 (UInt8.toNat_inj.1 (by rw[show (64:UInt8).toNat=64 from rfl];omega))
    have hin:=rL s (.list 1 (strs parts)) (.int .i64 0) (y::t) hx (y::t) [] rfl
    simp only[List.length_nil,Int.natCast_zero]at hin
    rw[e2]
    have h1:((y::t)==[])=false:=rfl
    generalize hy:y::t=yy at *
    cases ha:yy.all tj<;>rw[ha]at hin<;>simp only[cond_true,cond_false]at hin<;>cases h2:(yy==[110,111,100,101,95,109,111,100,117,108,101,115]) <;>
     refine zo Tryz.func115 rfl rfl ?_<;>simp (disch:=((try simp only[LL]);omega)) only[↓GO,↓DRW,GA,GX,ren,zk,za,refs,z8,cst,zr,isC,bin,una,z7,zd,blt,asArg,zg,zc,zf,z6,E.mkS,unN,ze,zm,zb,GS,simprocAttr,GZ,c,hget,zq,hin,zi,e3,hlt,hg0,h1,h2,IH,Int.zero_add]
theorem PX (s:Str)(hl:s.length≤1048576):zu (EV Tryz.prog pol) 115 [.t (.str s)]=some (.t (.bool (rS s))):=by
 have hbk:=u5 47 s
 have h3:=Yw s 47 (by omega)
 rw[show (((47:UInt8)).toNat:Int)=47 from rfl]at h3
 rw[← WZ]
 cases hc:xu 47 s with
 | nil=>exact absurd hc (qw 47 s)
 | cons x rest =>
  rw[hc]at h3 hbk
  have hb:∀ p∈x::rest,p.length≤4294967296:=fun p hp=>by have:=uY hp;omega
  have LP:=Po s (x::rest) (by omega) hb x rest rfl
  generalize x::rest=parts at *
  apply zx
  refine zy rfl Tryz.func115 rfl (by kernel_rfl) ?_
  unfold Tryz.f115
  cases hp:pQ parts<;>rw[hp]at LP<;>simp only[cond_true,cond_false]at LP <;>
   simp (disch:=((try simp only[LL]);omega)) only[↓GO,↓DRW,GA,GX,ren,zk,za,refs,z8,cst,zr,isC,bin,una,z7,zd,blt,asArg,zg,zc,zf,z6,E.mkS,unN,ze,zm,zb,GS,simprocAttr,GZ,h3,LP]
theorem TO (b:UInt8):zu (EV Tryz.prog pol) 176 [.t (.int .u8 (b.toNat:Int))]=some (.t (.bool (pP b))):=by
 apply zx
 refine zy rfl Tryz.func176 rfl (by kernel_rfl) ?_
 unfold Tryz.f176
 unfold pP B2
 simp only[nb]
 cases h1:decide ((33:Int)≤(b.toNat:Int))<;>cases h2:decide ((b.toNat:Int)≤126)<;>cases h3:((b.toNat:Int)==34)<;>cases h4:((b.toNat:Int)==39)<;>cases h5:((b.toNat:Int)==44) <;>
  simp (disch:=((try simp only[LL]);omega)) only[↓GO,↓DRW,GA,GX,ren,zk,za,refs,z8,cst,zr,isC,bin,una,z7,zd,blt,asArg,zg,zc,zf,z6,E.mkS,unN,ze,zm,zb,GS,simprocAttr,GZ,h1,h2,h3,h4,h5,bne,ge_iff_le]
theorem TN (s:Str)(hl:s.length≤1048576):zu (EV Tryz.prog pol) 113 [.t (.str s)]=some (.t (.bool (tD s))):=by
 have h:=Wt 176 pP TO s (by omega)
 apply zx
 refine zy rfl Tryz.func113 rfl (by kernel_rfl) ?_
 unfold Tryz.f113
 unfold tD
 cases h1:decide ((s.length:Int)≤100)<;>simp (disch:=((try simp only[LL]);omega)) only[↓GO,↓DRW,GA,GX,ren,zk,za,refs,z8,cst,zr,isC,bin,una,z7,zd,blt,asArg,zg,zc,zf,z6,E.mkS,unN,ze,zm,zb,GS,simprocAttr,GZ,h,h1]
theorem bo (s:Str)(hl:s.length≤1048576):∀ (rest pre:Str),s=pre++rest →
 EV Tryz.prog pol (.loop 116 26 0 [.t (.str s),.t (.int .i64 (pre.length:Int))] [])=some (cond (rest.all pP) (.loop (.exit 0) [.t (.str s),.bad] []) (.loop .ret [.t (.str s),.t (.bool false)] []))
 | [],pre,hs=>by
  have c:decide ((pre.length:Int)<(s.length:Int))=false:=by simp[hs]
  refine zo Tryz.func116 rfl rfl ?_
  simp only[↓GO,↓DRW,GA,GX,ren,zk,za,refs,z8,cst,zr,isC,bin,una,z7,zd,blt,asArg,zg,zc,zf,z6,E.mkS,unN,ze,zm,zb,GS,simprocAttr,c]
 | b :: rest, pre, hs => by
  have c:decide ((pre.length:Int)<(s.length:Int))=true:=by simp[hs];omega
  have hget:s[pre.length]? = some b:=by rw[hs];exact sT pre b rest
  have hlen:s.length=pre.length+rest.length+1:=by rw[hs];simp;omega
  have IH:=bo s hl rest (pre++[b]) (by rw[hs];simp)
  rw[show ((pre++[b]).length:Int)=(pre.length:Int)+1 by simp]at IH
  have hb:=wG (b.toNat:Int) 33 126
  clear hs
  refine zo Tryz.func116 rfl rfl ?_
  rw[List.all_cons,pP]
  simp only[nb]
  cases h1:B2 (b.toNat:Int) 33 126<;>rw[h1]at hb<;>cases h3:((b.toNat:Int)==34)<;>cases h4:((b.toNat:Int)==39)<;>cases h5:((b.toNat:Int)==44)<;>cases h6:((b.toNat:Int)==92) <;>
   simp (disch:=((try simp only[LL]);omega)) only[↓GO,↓DRW,GA,GX,ren,zk,za,refs,z8,cst,zr,isC,bin,una,z7,zd,blt,asArg,zg,zc,zf,z6,E.mkS,unN,ze,zm,zb,GS,simprocAttr,GZ,c,hget,zq,conv,wrap_u8,hb,h3,h4,h5,h6,bne,IH]
theorem TM (s:Str)(hl:s.length≤1048576):zu (EV Tryz.prog pol) 116 [.t (.str s)]=some (.t (.bool (tD s))):=by
 have IH:=bo s hl s [] rfl
 simp only[List.length_nil,Int.natCast_zero]at IH
 apply zx
 refine zy rfl Tryz.func116 rfl (by kernel_rfl) ?_
 unfold Tryz.f116
 unfold tD
 cases ha:s.all pP<;>rw[ha]at IH<;>simp only[cond_true,cond_false]at IH
 · simp (disch:=((try simp only[LL]);omega)) only[↓GO,↓DRW,GA,GX,ren,zk,za,refs,z8,cst,zr,isC,bin,una,z7,zd,blt,asArg,zg,zc,zf,z6,E.mkS,unN,ze,zm,zb,GS,simprocAttr,GZ,IH]
 · cases h1 : decide ((s.length : Int) ≤ 100) with
   | false=>simp (disch:=((try simp only[LL]);omega)) only[↓GO,↓DRW,GA,GX,ren,zk,za,refs,z8,cst,zr,isC,bin,una,z7,zd,blt,asArg,zg,zc,zf,z6,E.mkS,unN,ze,zm,zb,GS,simprocAttr,GZ,IH,h1]
   | true =>
    have h2:=of_decide_eq_true h1
    have h3:decide ((s.length:Int)<20000)=true:=by simp only[decide_eq_true_eq];omega
    simp (disch:=((try simp only[LL]);omega)) only[↓GO,↓DRW,GA,GX,ren,zk,za,refs,z8,cst,zr,isC,bin,una,z7,zd,blt,asArg,zg,zc,zf,z6,E.mkS,unN,ze,zm,zb,GS,simprocAttr,GZ,IH,h1,h3]
theorem zA (h:Heap)(ids:List Nat):reach h 3 ids=tI h 3 ids:=(qc h 3 ids).symm
theorem OF (n:Int):B2 n 0 999999999=n9 n:=rfl
def Ver.sm (v:Ver):Prop:=v.pre.length+yg v.pre≤2097152
theorem lq {α:Type} [BEq α](l:List α):((l.length:Int)==0)=(l==[]):=by
 cases l with
 | nil=>rfl
 | cons x l =>
  have h1:((x::l)==[])=false:=rfl
  have h2:(((x::l).length:Int)==0)=false:=by rw[beq_eq_false_iff_ne];simp only[List.length_cons];omega
  rw[h1,h2]
theorem Yo {α:Type} [BEq α](l:List α):decide ((l.length:Int) > 0) = !(l==[]):=by
 cases l with
 | nil=>rfl
 | cons x l =>
  have h1:((x::l)==[])=false:=rfl
  have h2:decide (((x::l).length:Int) > 0)=true:=by simp only[decide_eq_true_eq,List.length_cons];omega
  rw[h1,h2];rfl
theorem RQ (b:UInt8):B2 (b.toNat:Int) 48 57=isD b:=Yn b
theorem Zu (a:Int):zu (EV Tryz.prog pol) 229 [.t (.int .u8 a)]=some (.t (.bool (B2 a 97 122||B2 a 65 90))):=by
 have h1:=gD a
 apply zx
 refine zy rfl Tryz.func229 rfl (by kernel_rfl) ?_
 unfold Tryz.f229
 cases h2:B2 a 97 122<;>rw[h2]at h1
 · unfold B2
   cases h3:decide ((65:Int)≤a)<;>simp (disch:=((try simp only[LL]);omega)) only[↓GO,↓DRW,GA,GX,ren,zk,za,refs,z8,cst,zr,isC,bin,una,z7,zd,blt,asArg,zg,zc,zf,z6,E.mkS,unN,ze,zm,zb,GS,simprocAttr,GZ,h1,h3,ge_iff_le]
 · simp (disch:=((try simp only[LL]);omega)) only[↓GO,↓DRW,GA,GX,ren,zk,za,refs,z8,cst,zr,isC,bin,una,z7,zd,blt,asArg,zg,zc,zf,z6,E.mkS,unN,ze,zm,zb,GS,simprocAttr,GZ,h1]
theorem M3 (b:UInt8):zu (EV Tryz.prog pol) 228 [.t (.int .u8 (b.toNat:Int))]=some (.t (.bool (preB b))):=by
 have h1:=Zu (b.toNat:Int)
 have h2:=nR (b.toNat:Int)
 apply zx
 refine zy rfl Tryz.func228 rfl (by kernel_rfl) ?_
 unfold Tryz.f228
 unfold preB
 simp only[nb]
 cases h3:B2 (b.toNat:Int) 97 122<;>cases h4:B2 (b.toNat:Int) 65 90<;>cases h5:B2 (b.toNat:Int) 48 57<;>rw[h3,h4]at h1<;>rw[h5]at h2 <;>
  simp (disch:=((try simp only[LL]);omega)) only[↓GO,↓DRW,GA,GX,ren,zk,za,refs,z8,cst,zr,isC,bin,una,z7,zd,blt,asArg,zg,zc,zf,z6,E.mkS,unN,ze,zm,zb,GS,simprocAttr,GZ,h1,h2]
theorem O3 (b:UInt8):zu (EV Tryz.prog pol) 175 [.t (.int .u8 (b.toNat:Int))]=some (.t (.bool (isD b))):=by
 rw[nR,RQ]
theorem O2 (s:Str)(hl:s.length≤9223372036854775807):zu (EV Tryz.prog pol) 192 [.t (.str s)]=some (.t (.bool (isNum s))):=by
 have h:=Wt 175 isD O3 s hl
 apply zx
 refine zy rfl Tryz.func192 rfl (by kernel_rfl) ?_
 unfold Tryz.f192
 unfold isNum
 cases h1:(s==[])<;>simp (disch:=((try simp only[LL]);omega)) only[↓GO,↓DRW,GA,GX,ren,zk,za,refs,z8,cst,zr,isC,bin,una,z7,zd,blt,asArg,zg,zc,zf,z6,E.mkS,unN,ze,zm,zb,GS,simprocAttr,GZ,h,h1,bne]
theorem Pn (x1 x2 x3 x4:T)(a b c:Int) :
 EV Tryz.prog pol (.loop 190 26 0 [.ptr 0 0 0,.sl 1 0 3 (some 3),.t (.int .i64 3),.t (.int .i64 0)] [.vs 4 [[.t x1,.t x2,.t x3,.t x4]],.ts 1 [[.int .i64 a],[.int .i64 b],[.int .i64 c]]])
 = some (cond (n9 a&&(n9 b&&n9 c)) (.loop (.exit 0) [.ptr 0 0 0,.bad] [.vs 4 [[.t x1,.t x2,.t x3,.t x4]]]) (.loop .ret [.ptr 0 0 0,.t (.bool false)] [.vs 4 [[.t x1,.t x2,.t x3,.t x4]]])):=by
 have ha:=wO a 0 999999999
 have hb:=wO b 0 999999999
 have hc:=wO c 0 999999999
 rw[OF]at ha hb hc
 cases h1:n9 a<;>rw[h1]at ha
 · refine zo Tryz.func190 rfl rfl ?_
   simp (disch:=((try simp only[LL]);omega)) only[↓GO,↓DRW,GA,GX,ren,zk,za,refs,z8,cst,zr,isC,bin,una,z7,zd,blt,asArg,zg,zc,zf,z6,E.mkS,unN,ze,zm,zb,GS,simprocAttr,GZ,ha,zq,zA,Int.cast_ofNat_Int]
 · refine zo Tryz.func190 rfl rfl ?_
   simp (disch:=((try simp only[LL]);omega)) only[↓GO,↓DRW,GA,GX,ren,zk,za,refs,z8,cst,zr,isC,bin,una,z7,zd,blt,asArg,zg,zc,zf,z6,E.mkS,unN,ze,zm,zb,GS,simprocAttr,GZ,ha,zq,zA,Int.cast_ofNat_Int]
   cases h2:n9 b<;>rw[h2]at hb
   · refine zo Tryz.func190 rfl rfl ?_
     simp (disch:=((try simp only[LL]);omega)) only[↓GO,↓DRW,GA,GX,ren,zk,za,refs,z8,cst,zr,isC,bin,una,z7,zd,blt,asArg,zg,zc,zf,z6,E.mkS,unN,ze,zm,zb,GS,simprocAttr,GZ,hb,zq,Int.zero_add,zA,Int.cast_ofNat_Int,Int.reduceAdd]
   · refine zo Tryz.func190 rfl rfl ?_
     simp (disch:=((try simp only[LL]);omega)) only[↓GO,↓DRW,GA,GX,ren,zk,za,refs,z8,cst,zr,isC,bin,una,z7,zd,blt,asArg,zg,zc,zf,z6,E.mkS,unN,ze,zm,zb,GS,simprocAttr,GZ,hb,zq,Int.zero_add,zA,Int.cast_ofNat_Int,Int.reduceAdd]
     cases h3:n9 c<;>rw[h3]at hc
     · refine zo Tryz.func190 rfl rfl ?_
       simp (disch:=((try simp only[LL]);omega)) only[↓GO,↓DRW,GA,GX,ren,zk,za,refs,z8,cst,zr,isC,bin,una,z7,zd,blt,asArg,zg,zc,zf,z6,E.mkS,unN,ze,zm,zb,GS,simprocAttr,GZ,hc,zq,Int.zero_add,zA,Int.cast_ofNat_Int,Int.reduceAdd]
     · refine zo Tryz.func190 rfl rfl ?_
       simp (disch:=((try simp only[LL]);omega)) only[↓GO,↓DRW,GA,GX,ren,zk,za,refs,z8,cst,zr,isC,bin,una,z7,zd,blt,asArg,zg,zc,zf,z6,E.mkS,unN,ze,zm,zb,GS,simprocAttr,GZ,hc,zq,Int.zero_add,zA,Int.cast_ofNat_Int,Int.reduceAdd]
       refine zo Tryz.func190 rfl rfl ?_
       simp (disch:=((try simp only[LL]);omega)) only[↓GO,↓DRW,GA,GX,ren,zk,za,refs,z8,cst,zr,isC,bin,una,z7,zd,blt,asArg,zg,zc,zf,z6,E.mkS,unN,ze,zm,zb,GS,simprocAttr,GZ,zq,Int.zero_add,zA,Int.cast_ofNat_Int,Int.reduceAdd]
theorem Xm (v:Ver)(hs:v.sm):∀ (rest pre:List Str),v.pre=pre++rest →
 EV Tryz.prog pol (.loop 190 58 0 [.ptr 0 0 0,.t (.list 1 (strs v.pre)),.t (.int .i64 (v.pre.length:Int)),.t (.int .i64 (pre.length:Int))] [.vs 4 [v.enc.map .t]])
 = some (cond (rest.all sr) (.loop (.exit 2) [.ptr 0 0 0,.bad] [.vs 4 [v.enc.map .t]]) (.loop .ret [.ptr 0 0 0,.t (.bool false)] [.vs 4 [v.enc.map .t]]))
 | [],pre,hp=>by
  have c:decide ((pre.length:Int)<(v.pre.length:Int))=false:=by simp[hp]
  refine zo Tryz.func190 rfl rfl ?_
  simp only[↓GO,↓DRW,GA,GX,ren,zk,za,refs,z8,cst,zr,isC,bin,una,z7,zd,blt,asArg,zg,zc,zf,z6,E.mkS,unN,ze,zm,zb,GS,simprocAttr,c,Ver.enc]
 | x :: rest, pre, hp => by
  unfold Ver.sm at hs
  have c:decide ((pre.length:Int)<(v.pre.length:Int))=true:=by simp[hp];omega
  have hget:(strs v.pre)[pre.length]? = some [.str x]:=by rw[hp];exact vK pre x rest
  have hlen:pre.length+rest.length+1≤v.pre.length:=by rw[hp];simp;omega
  have hx:x.length≤2097152:=by have:=uY (ks:=v.pre) (s:=x) (by rw[hp];simp);omega
  have IH:=Xm v hs rest (pre++[x]) (by rw[hp];simp)
  rw[show ((pre++[x]).length:Int)=(pre.length:Int)+1 by simp]at IH
  have h1:=wO (x.length:Int) 1 20
  have h2:=Wt 228 preB M3 x (by omega)
  have h3:=O2 x (by omega)
  have h4:=Wr x (by omega)
  clear hp
  simp only[Ver.enc,List.map_cons,List.map_nil]at IH ⊢
  rw[List.all_cons,sr]
  have e4:decide (zT x<0) = !decide (0≤zT x):=by
   rcases Int.lt_or_le (zT x) 0 with h | h
   · have a : ¬ (0 ≤ zT x) := by omega
     simp[h,a]
   · have a : ¬ (zT x < 0) := by omega
     simp[h,a]
  generalize B2 (x.length:Int) 1 20=b1 at *
  generalize x.all preB=b2 at *
  generalize isNum x=b3 at *
  generalize zT x=rd at *
  generalize decide (0≤rd)=b4 at *
  cases b1<;>cases b2<;>cases b3<;>cases b4<;>refine zo Tryz.func190 rfl rfl ?_ <;>
   simp (disch:=((try simp only[LL]);omega)) only[↓GO,↓DRW,GA,GX,ren,zk,za,refs,z8,cst,zr,isC,bin,una,z7,zd,blt,asArg,zg,zc,zf,z6,E.mkS,unN,ze,zm,zb,GS,simprocAttr,GZ,c,hget,zq,h1,h2,h3,h4,e4,zi,IH,zA]
theorem NW (v:Ver)(hs:v.sm):zu (EV Tryz.prog pol) 190 [.agg (v.enc.map .t)]=some (.t (.bool (xr v))):=by
 have h1:=Pn (.int .i64 v.maj) (.int .i64 v.min) (.int .i64 v.pat) (.list 1 (strs v.pre)) v.maj v.min v.pat
 have h2:=Xm v hs v.pre [] rfl
 unfold Ver.sm at hs
 simp only[List.length_nil,Int.natCast_zero]at h2
 simp only[Ver.enc,List.map_cons,List.map_nil]at h1 h2 ⊢
 unfold xr
 generalize (n9 v.maj&&(n9 v.min&&n9 v.pat))=b1 at *
 generalize v.pre.all sr=b2 at *
 apply zx
 refine zy rfl Tryz.func190 rfl (by kernel_rfl) ?_
 unfold Tryz.f190
 cases b1<;>cases b2<;>simp only[cond_true,cond_false]at h1 h2 <;>
  simp (disch:=((try simp only[LL]);omega)) only[↓GO,↓DRW,GA,GX,ren,zk,za,refs,z8,cst,zr,isC,bin,una,z7,zd,blt,asArg,zg,zc,zf,z6,E.mkS,unN,ze,zm,zb,GS,simprocAttr,GZ,h1,h2,zi,zA,Int.cast_ofNat_Int]
theorem O4 (b:UInt8):zu (EV Tryz.prog pol) 285 [.t (.int .u8 (b.toNat:Int))]=some (.t (.bool (B2 (b.toNat:Int) 65 90))):=by
 have h:=wG (b.toNat:Int) 65 90
 apply zx
 refine zy rfl Tryz.func285 rfl (by kernel_rfl) ?_
 unfold Tryz.f285
 simp (disch:=((try simp only[LL]);omega)) only[↓GO,↓DRW,GA,GX,ren,zk,za,refs,z8,cst,zr,isC,bin,una,z7,zd,blt,asArg,zg,zc,zf,z6,E.mkS,unN,ze,zm,zb,GS,simprocAttr,GZ,h,conv,wrap_u8]
theorem RJ (s:Str)(hl:s.length≤2097152):∀ (rest pre:Str),s=pre++rest →
 EV Tryz.prog pol (.loop 286 26 0 [.t (.str s),.t (.int .i64 (pre.length:Int))] [])=some (cond (rest.all isD) (.loop (.exit 0) [.t (.str s),.bad] []) (.loop .ret [.t (.str s),.t (.bool false)] []))
 | [],pre,hs=>by
  have c:decide ((pre.length:Int)<(s.length:Int))=false:=by simp[hs]
  refine zo Tryz.func286 rfl rfl ?_
  simp only[↓GO,↓DRW,GA,GX,ren,zk,za,refs,z8,cst,zr,isC,bin,una,z7,zd,blt,asArg,zg,zc,zf,z6,E.mkS,unN,ze,zm,zb,GS,simprocAttr,c]
 | b :: rest, pre, hs => by
  have c:decide ((pre.length:Int)<(s.length:Int))=true:=by simp[hs];omega
  have hget:s[pre.length]? = some b:=by rw[hs];exact sT pre b rest
  have hlen:s.length=pre.length+rest.length+1:=by rw[hs];simp;omega
  have IH:=RJ s hl rest (pre++[b]) (by rw[hs];simp)
  rw[show ((pre++[b]).length:Int)=(pre.length:Int)+1 by simp]at IH
  have hb:=wG (b.toNat:Int) 48 57
  rw[RQ]at hb
  clear hs
  refine zo Tryz.func286 rfl rfl ?_
  cases h1:isD b<;>rw[h1]at hb <;>
   simp (disch:=((try simp only[LL]);omega)) only[↓GO,↓DRW,GA,GX,ren,zk,za,refs,z8,cst,zr,isC,bin,una,z7,zd,blt,asArg,zg,zc,zf,z6,E.mkS,unN,ze,zm,zb,GS,simprocAttr,GZ,c,hget,zq,conv,wrap_u8,hb,h1,IH]
theorem Mg (s:Str)(hl:s.length≤2097152):zu (EV Tryz.prog pol) 286 [.t (.str s)]=some (.t (.bool (isNum s))):=by
 have IH:=RJ s hl s [] rfl
 simp only[List.length_nil,Int.natCast_zero]at IH
 apply zx
 refine zy rfl Tryz.func286 rfl (by kernel_rfl) ?_
 unfold Tryz.f286
 unfold isNum
 cases h1:s.all isD<;>rw[h1]at IH<;>simp only[cond_true,cond_false]at IH <;>
  simp (disch:=((try simp only[LL]);omega)) only[↓GO,↓DRW,GA,GX,ren,zk,za,refs,z8,cst,zr,isC,bin,una,z7,zd,blt,asArg,zg,zc,zf,z6,E.mkS,unN,ze,zm,zb,GS,simprocAttr,GZ,IH,bne]
theorem RD (s:Str)(hl:s.length≤2097152):∀ (rest pre:Str),s=pre++rest →
 EV Tryz.prog pol (.loop 242 26 0 [.t (.str s),.t (.int .i64 (pre.length:Int))] [])=some (cond (rest.all preB) (.loop (.exit 0) [.t (.str s),.bad] []) (.loop .ret [.t (.str s),.t (.bool false)] []))
 | [],pre,hs=>by
  have c:decide ((pre.length:Int)<(s.length:Int))=false:=by simp[hs]
  refine zo Tryz.func242 rfl rfl ?_
  simp only[↓GO,↓DRW,GA,GX,ren,zk,za,refs,z8,cst,zr,isC,bin,una,z7,zd,blt,asArg,zg,zc,zf,z6,E.mkS,unN,ze,zm,zb,GS,simprocAttr,c]
 | b :: rest, pre, hs => by
  have c:decide ((pre.length:Int)<(s.length:Int))=true:=by simp[hs];omega
  have hget:s[pre.length]? = some b:=by rw[hs];exact sT pre b rest
  have hlen:s.length=pre.length+rest.length+1:=by rw[hs];simp;omega
  have IH:=RD s hl rest (pre++[b]) (by rw[hs];simp)
  rw[show ((pre++[b]).length:Int)=(pre.length:Int)+1 by simp]at IH
  have hb:=mP b
  have hg:=O4 b
  clear hs
  refine zo Tryz.func242 rfl rfl ?_
  rw[List.all_cons,preB]
  simp only[nb]at *
  cases h1:(B2 (b.toNat:Int) 97 122||B2 (b.toNat:Int) 48 57)<;>rw[h1]at hb<;>cases h2:B2 (b.toNat:Int) 65 90<;>rw[h2]at hg<;>cases h3:((b.toNat:Int)==45) <;>
   simp (disch:=((try simp only[LL]);omega)) only[↓GO,↓DRW,GA,GX,ren,zk,za,refs,z8,cst,zr,isC,bin,una,z7,zd,blt,asArg,zg,zc,zf,z6,E.mkS,unN,ze,zm,zb,GS,simprocAttr,GZ,c,hget,zq,hb,hg,h3,bne,IH]
theorem M1 (s:Str)(hl:s.length≤2097152):zu (EV Tryz.prog pol) 242 [.t (.str s)]=some (.t (.bool (sr s))):=by
 have IH:=RD s hl s [] rfl
 simp only[List.length_nil,Int.natCast_zero]at IH
 have h1:=wG (s.length:Int) 1 20
 have h3:=Mg s hl
 have h4:=fF s (by omega)
 apply zx
 refine zy rfl Tryz.func242 rfl (by kernel_rfl) ?_
 unfold Tryz.f242
 unfold sr
 generalize B2 (s.length:Int) 1 20=b1 at *
 generalize isNum s=b3 at *
 generalize zT s=rd at *
 cases ha:s.all preB<;>rw[ha]at IH<;>simp only[cond_true,cond_false]at IH<;>cases b1<;>cases b3 <;>
  simp (disch:=((try simp only[LL]);omega)) only[↓GO,↓DRW,GA,GX,ren,zk,za,refs,z8,cst,zr,isC,bin,una,z7,zd,blt,asArg,zg,zc,zf,z6,E.mkS,unN,ze,zm,zb,GS,simprocAttr,GZ,IH,h1,h3,h4,ge_iff_le]
theorem RC (v:Ver)(hs:v.sm):∀ (rest pre:List Str),v.pre=pre++rest →
 EV Tryz.prog pol (.loop 204 26 0 [.ptr 0 0 0,.t (.int .i64 (pre.length:Int))] [.vs 4 [v.enc.map .t]])
 = some (cond (rest.all sr) (.loop (.exit 0) [.ptr 0 0 0,.bad] [.vs 4 [v.enc.map .t]]) (.loop .ret [.ptr 0 0 0,.t (.bool false)] [.vs 4 [v.enc.map .t]]))
 | [],pre,hp=>by
  have c:decide ((pre.length:Int)<(v.pre.length:Int))=false:=by simp[hp]
  refine zo Tryz.func204 rfl rfl ?_
  simp only[↓GO,↓DRW,GA,GX,ren,zk,za,refs,z8,cst,zr,isC,bin,una,z7,zd,blt,asArg,zg,zc,zf,z6,E.mkS,unN,ze,zm,zb,GS,simprocAttr,zi,c,Ver.enc]
 | x :: rest, pre, hp => by
  unfold Ver.sm at hs
  have c:decide ((pre.length:Int)<(v.pre.length:Int))=true:=by simp[hp];omega
  have hget:(strs v.pre)[pre.length]? = some [.str x]:=by rw[hp];exact vK pre x rest
  have hlen:pre.length+rest.length+1≤v.pre.length:=by rw[hp];simp;omega
  have hx:x.length≤2097152:=by have:=uY (ks:=v.pre) (s:=x) (by rw[hp];simp);omega
  have IH:=RC v hs rest (pre++[x]) (by rw[hp];simp)
  rw[show ((pre++[x]).length:Int)=(pre.length:Int)+1 by simp]at IH
  have h1:=M1 x hx
  clear hp
  simp only[Ver.enc,List.map_cons,List.map_nil]at IH ⊢
  cases h2:sr x<;>rw[h2]at h1<;>refine zo Tryz.func204 rfl rfl ?_ <;>
   simp (disch:=((try simp only[LL]);omega)) only[↓GO,↓DRW,GA,GX,ren,zk,za,refs,z8,cst,zr,isC,bin,una,z7,zd,blt,asArg,zg,zc,zf,z6,E.mkS,unN,ze,zm,zb,GS,simprocAttr,GZ,c,hget,zq,h1,h2,zi,IH,zA]
theorem Yv (v:Ver)(hs:v.sm):zu (EV Tryz.prog pol) 204 [.agg (v.enc.map .t)]=some (.t (.bool (xr v))):=by
 have h2:=RC v hs v.pre [] rfl
 have ha:=wG v.maj 0 999999999
 have hb:=wG v.min 0 999999999
 have hc:=wG v.pat 0 999999999
 rw[OF]at ha hb hc
 unfold Ver.sm at hs
 simp only[List.length_nil,Int.natCast_zero]at h2
 simp only[Ver.enc,List.map_cons,List.map_nil]at h2 ⊢
 unfold xr
 generalize n9 v.maj=b1 at *
 generalize n9 v.min=b3 at *
 generalize n9 v.pat=b4 at *
 generalize v.pre.all sr=b2 at *
 apply zx
 refine zy rfl Tryz.func204 rfl (by kernel_rfl) ?_
 unfold Tryz.f204
 cases b2<;>simp only[cond_true,cond_false]at h2<;>cases b1<;>cases b3<;>cases b4 <;>
  simp (disch:=((try simp only[LL]);omega)) only[↓GO,↓DRW,GA,GX,ren,zk,za,refs,z8,cst,zr,isC,bin,una,z7,zd,blt,asArg,zg,zc,zf,z6,E.mkS,unN,ze,zm,zb,GS,simprocAttr,GZ,h2,ha,hb,hc,zi,zA]
def xE (bs:List Int):List (List T):=bs.map fun b=>[.int .u8 b]
theorem vk (bs:List Int):(xE bs).length=bs.length:=by simp[xE]
def okB (bs:List Int):Prop:=bs.length≤1048576∧∀ b∈bs,0≤b∧b≤255
def cuR (bs:List Int)(c:Cs):Blk:=.vs 3 [[.t (.list 1 (xE bs)),.t (.int .i64 (c.1:Int)),.t (.int .i64 c.2)]]
def cok (bs:List Int)(c:Cs):Prop:=c.1≤bs.length
theorem sh33 (x:Int):jl .shr .i64 x 33=some (x.fdiv (2 ^ 33)):=rfl
theorem sh45 (x:Int):jl .shr .i64 x 45=some (x.fdiv (2 ^ 45)):=rfl
theorem ixor (x y:Int):uo .xor .i64 x y=some (.int .i64 (Oy x y)):=rfl
theorem Gl (x y:Int):uo .and .i64 x y=some (.int .i64 (fH x y)):=rfl
set_option maxHeartbeats 2000000 in
theorem Q4 (bs:List Int)(hb:okB bs)(c:Cs)(hc:cok bs c):EV Tryz.prog pol (.callO false 159 [.ptr 0 0 0] [cuR bs c])=some (.call (.t (.int .i64 (nxI bs c))) [cuR bs (nxC bs c)]):=by
 obtain⟨i,h⟩:=c
 unfold cok at hc
 obtain⟨hl,hb⟩:=hb
 have hel:=vk bs
 have c0:decide ((0:Int)≤(i:Int))=true:=by apply decide_eq_true;omega
 unfold cuR nxI nxC Gk lcg w64 lcA lcC
 simp only at hc ⊢
 cases hg:bs[i]? with
 | some b =>
  have hil:=(List.getElem?_eq_some_iff.1 hg).1
  have c1:decide ((i:Int)<(bs.length:Int))=true:=by apply decide_eq_true;omega
  have hget:(xE bs)[i]? = some [.int .u8 b]:=by unfold xE;rw[List.getElem?_map,hg];rfl
  have hbb:=hb b (List.mem_of_getElem? hg)
  simp only
  rw[show ((i+1:Nat):Int)=(i:Int)+1 by omega]
  generalize xE bs=E0 at *
  generalize bs.length=n at *
  clear hg hb
  refine zH Tryz.func159 rfl (by kernel_rfl) ?_
  unfold Tryz.f159
  simp (disch:=((try simp only[LL]);omega)) only[↓GO,↓DRW,GA,GX,ren,zk,za,refs,z8,cst,zr,isC,bin,una,z7,zd,blt,asArg,zg,zc,zf,z6,E.mkS,unN,ze,zm,zb,GS,simprocAttr,GZ,c0,c1,hel,hget,sh33,sh45,ixor,Gl,conv,zq,zA]
 | none =>
  have hil:=List.getElem?_eq_none_iff.1 hg
  have c1:decide ((i:Int)<(bs.length:Int))=false:=by apply decide_eq_false;omega
  simp only
  generalize xE bs=E0 at *
  generalize bs.length=n at *
  clear hg hb
  refine zH Tryz.func159 rfl (by kernel_rfl) ?_
  unfold Tryz.f159
  simp (disch:=((try simp only[LL]);omega)) only[↓GO,↓DRW,GA,GX,ren,zk,za,refs,z8,cst,zr,isC,bin,una,z7,zd,blt,asArg,zg,zc,zf,z6,E.mkS,unN,ze,zm,zb,GS,simprocAttr,GZ,c0,c1,hel,sh33,sh45,ixor,Gl,zq,zA]
theorem tmodN (a n:Nat):Int.tmod (a:Int) (n:Int)=((a % n:Nat):Int):=(Int.ofNat_tmod a n).symm
theorem jw (bs:List Int)(hb:okB bs)(c:Cs)(hc:cok bs c)(n:Nat)(h1:1≤n)(h2:n≤256):EV Tryz.prog pol (.callO false 94 [.ptr 0 0 0,.t (.int .i64 (n:Int))] [cuR bs c])=some (.call (.t (.int .i64 ((nxN bs c % n:Nat):Int))) [cuR bs (nxC bs c)]):=by
 have d:=Q4 bs hb c hc
 rw[Ru]at d
 have c1:decide ((n:Int)≤0)=false:=by apply decide_eq_false;omega
 have c2:decide ((n:Int)≤256)=true:=by apply decide_eq_true;omega
 have c3:((n:Int)=0)=False:=eq_false (by omega)
 unfold cuR at d ⊢
 generalize nxN bs c=x at *
 generalize nxC bs c=c' at *
 refine zH Tryz.func94 rfl (by kernel_rfl) ?_
 unfold Tryz.f94
 simp (disch:=((try simp only[LL]);omega)) only[↓GO,↓DRW,GA,GX,ren,zk,za,refs,z8,cst,zr,isC,bin,una,z7,zd,blt,asArg,zg,zc,zf,z6,E.mkS,unN,ze,zm,zb,GS,simprocAttr,GZ,c1,c2,c3,if_false,d,tmodN,zq,zA]
theorem pM (bs:List Int)(hb:okB bs)(c:Cs)(hc:cok bs c)(n:Nat)(h1:1≤n)(h2:n≤256):∃ (k:Nat) (c':Cs),k<n∧cok bs c'∧EV Tryz.prog pol (.callO false 94 [.ptr 0 0 0,.t (.int .i64 (n:Int))] [cuR bs c])=some (.call (.t (.int .i64 (k:Int))) [cuR bs c']) :=
 ⟨_,_,Nat.mod_lt _ h1,Rv bs c hc,jw bs hb c hc n h1 h2⟩
theorem uA (bs:List Int)(hb:okB bs)(c:Cs)(hc:cok bs c)(n:Nat)(h1:1≤n)(h2:n≤256):∃ (b:Bool) (c':Cs),cok bs c'∧EV Tryz.prog pol (.callO false 131 [.ptr 0 0 0,.t (.int .i64 (n:Int))] [cuR bs c])=some (.call (.t (.bool b)) [cuR bs c']):=by
 obtain⟨k,c',_,hc',d⟩:=pM bs hb c hc n h1 h2
 refine⟨((k:Int)==0),c',hc',?_⟩
 unfold cuR at d ⊢
 refine zH Tryz.func131 rfl (by kernel_rfl) ?_
 unfold Tryz.f131
 simp (disch:=((try simp only[LL]);omega)) only[↓GO,↓DRW,GA,GX,ren,zk,za,refs,z8,cst,zr,isC,bin,una,z7,zd,blt,asArg,zg,zc,zf,z6,E.mkS,unN,ze,zm,zb,GS,simprocAttr,GZ,d,zA]
theorem te (bs:List Int)(hb:okB bs)(c:Cs)(hc:cok bs c)(ks:List Str)(n:Nat)(hn:n=ks.length)(h1:1≤n)(h2:n≤256)(cap:Option Nat):∃ (s:Str) (c':Cs),s∈ks∧cok bs c' ∧
 EV Tryz.prog pol (.callO false 68 [.ptr 0 0 0,.sl 1 0 n cap] [cuR bs c,.ts 1 (strs ks)])=some (.call (.t (.str s)) [cuR bs c',.ts 1 (strs ks)]):=by
 obtain⟨k,c',hk,hc',d⟩:=pM bs hb c hc n h1 h2
 have hkl:k<ks.length:=by omega
 have hg:=List.getElem?_eq_getElem hkl
 have hget:(strs ks)[k]? = some [.str ks[k]]:=by unfold strs;rw[List.getElem?_map,hg];rfl
 have c0:decide ((0:Int)≤(k:Int))=true:=by apply decide_eq_true;omega
 have c1:decide ((k:Int)<(n:Int))=true:=by apply decide_eq_true;omega
 have c00:(0:Int)≤(k:Int):=by omega
 refine⟨ks[k],c',List.getElem_mem hkl,hc',?_⟩
 generalize ks[k]=s at *
 generalize strs ks=E0 at *
 clear hg hkl
 unfold cuR at d ⊢
 refine zH Tryz.func68 rfl (by kernel_rfl) ?_
 unfold Tryz.f68
 simp (disch:=((try simp only[LL]);omega)) only[↓GO,↓DRW,GA,GX,ren,zk,za,refs,z8,cst,zr,isC,bin,una,z7,zd,blt,asArg,zg,zc,zf,z6,E.mkS,unN,ze,zm,zb,GS,simprocAttr,GZ,d,c0,c1,hget,zA]
def pJ (l:List Int):List (List T):=l.map fun x=>[.int .i64 x]
theorem sR (bs:List Int)(hb:okB bs)(c:Cs)(hc:cok bs c)(ks:List Int)(n:Nat)(hn:n=ks.length)(h1:1≤n)(h2:n≤256)(cap:Option Nat):∃ (s:Int) (c':Cs),s∈ks∧cok bs c' ∧
 EV Tryz.prog pol (.callO false 132 [.ptr 0 0 0,.sl 1 0 n cap] [cuR bs c,.ts 1 (pJ ks)])=some (.call (.t (.int .i64 s)) [cuR bs c',.ts 1 (pJ ks)]):=by
 obtain⟨k,c',hk,hc',d⟩:=pM bs hb c hc n h1 h2
 have hkl:k<ks.length:=by omega
 have hg:=List.getElem?_eq_getElem hkl
 have hget:(pJ ks)[k]? = some [.int .i64 ks[k]]:=by unfold pJ;rw[List.getElem?_map,hg];rfl
 have c0:decide ((0:Int)≤(k:Int))=true:=by apply decide_eq_true;omega
 have c1:decide ((k:Int)<(n:Int))=true:=by apply decide_eq_true;omega
 refine⟨ks[k],c',List.getElem_mem hkl,hc',?_⟩
 generalize ks[k]=s at *
 generalize pJ ks=E0 at *
 clear hg hkl
 unfold cuR at d ⊢
 refine zH Tryz.func132 rfl (by kernel_rfl) ?_
 unfold Tryz.f132
 simp (disch:=((try simp only[LL]);omega)) only[↓GO,↓DRW,GA,GX,ren,zk,za,refs,z8,cst,zr,isC,bin,una,z7,zd,blt,asArg,zg,zc,zf,z6,E.mkS,unN,ze,zm,zb,GS,simprocAttr,GZ,d,c0,c1,hget,zA]
theorem M9 (bs:List Int)(hb:okB bs)(c:Cs)(hc:cok bs c):∃ (s:Str) (c':Cs),s.length≤32∧cok bs c'∧EV Tryz.prog pol (.callO false 95 [.ptr 0 0 0] [cuR bs c])=some (.call (.t (.str s)) [cuR bs c']):=by
 obtain⟨s,c',hs,hc',d⟩:=te bs hb c hc [[97],[98],[99,111,114,101],[108,101,102,116,45,112,97,100],[64,111,114,103,47,117,105],[103,111,108,97,110,103,46,111,114,103,47,120,47,116,101,120,116],[108,105,98,95,99],[122,101,100]] 8 rfl (by decide) (by decide) (some 8)
 refine⟨s,c',?_,hc',?_⟩
 · simp only [List.mem_cons, List.not_mem_nil, or_false] at hs
   rcases hs with rfl | rfl | rfl | rfl | rfl | rfl | rfl | rfl<;>decide
 · clear hs
   simp only[strs,List.map_cons,List.map_nil]at d
   unfold cuR at d ⊢
   refine zH Tryz.func95 rfl (by kernel_rfl) ?_
   unfold Tryz.f95
   simp (disch:=((try simp only[LL]);omega)) only[↓GO,↓DRW,GA,GX,ren,zk,za,refs,z8,cst,zr,isC,bin,una,z7,zd,blt,asArg,zg,zc,zf,z6,E.mkS,unN,ze,zm,zb,GS,simprocAttr,GZ,d,zA]
theorem c_odd (bs:List Int)(hb:okB bs)(c:Cs)(hc:cok bs c):∃ (s:Str) (c':Cs),s.length≤32∧cok bs c'∧EV Tryz.prog pol (.callO false 134 [.ptr 0 0 0] [cuR bs c])=some (.call (.t (.str s)) [cuR bs c']):=by
 obtain⟨s,c',hs,hc',d⟩:=te bs hb c hc [[],[65],[97,47,47,98],[47,97],[97,64,98],[64],[64,97],[97,32,98],[97,47,64,98],[46],[120,47],[120,47,110,111,100,101,95,109,111,100,117,108,101,115,47,121]] 12 rfl (by decide) (by decide) (some 12)
 refine⟨s,c',?_,hc',?_⟩
 · simp only [List.mem_cons, List.not_mem_nil, or_false] at hs
   rcases hs with rfl | rfl | rfl | rfl | rfl | rfl | rfl | rfl | rfl | rfl | rfl | rfl<;>decide
 · clear hs
   simp only[strs,List.map_cons,List.map_nil]at d
   unfold cuR at d ⊢
   refine zH Tryz.func134 rfl (by kernel_rfl) ?_
   unfold Tryz.f134
   simp (disch:=((try simp only[LL]);omega)) only[↓GO,↓DRW,GA,GX,ren,zk,za,refs,z8,cst,zr,isC,bin,una,z7,zd,blt,asArg,zg,zc,zf,z6,E.mkS,unN,ze,zm,zb,GS,simprocAttr,GZ,d,zA]
theorem OO (code:List Int)(hb:okB code):∀ (rest pre:List Int) (h:Int),code=pre++rest→∃ h':Int,
 EV Tryz.prog pol (.loop 48 58 0 [.t (.list 1 (xE code)),.t (.int .i64 h),.t (.int .i64 (pre.length:Int))] [])=some (.loop (.exit 0) [.t (.list 1 (xE code)),.t (.int .i64 h')] [])
 | [],pre,h,hs=>by
  have c:decide ((pre.length:Int)<(code.length:Int))=false:=by simp[hs]
  have hel:=vk code
  refine⟨h,?_⟩
  generalize xE code=E0 at *
  refine zo Tryz.func48 rfl rfl ?_
  simp (disch:=((try simp only[LL]);omega)) only[↓GO,↓DRW,GA,GX,ren,zk,za,refs,z8,cst,zr,isC,bin,una,z7,zd,blt,asArg,zg,zc,zf,z6,E.mkS,unN,ze,zm,zb,GS,simprocAttr,GZ,c,hel,zA]
 | x :: rest, pre, h, hs => by
  have c:decide ((pre.length:Int)<(code.length:Int))=true:=by simp[hs];omega
  have c0:decide ((0:Int)≤(pre.length:Int))=true:=by simp
  have hlen:pre.length+rest.length+1≤code.length:=by rw[hs];simp;omega
  have hcl:=hb.1
  have hxb:=hb.2 x (by rw[hs];simp)
  have hget:(xE code)[pre.length]? = some [.int .u8 x]:=by rw[hs];simp[xE]
  have hel:=vk code
  cases q:decide ((pre.length:Int)<4000) with
  | false =>
   refine⟨h,?_⟩
   generalize xE code=E0 at *
   refine zo Tryz.func48 rfl rfl ?_
   simp (disch:=((try simp only[LL]);omega)) only[↓GO,↓DRW,GA,GX,ren,zk,za,refs,z8,cst,zr,isC,bin,una,z7,zd,blt,asArg,zg,zc,zf,z6,E.mkS,unN,ze,zm,zb,GS,simprocAttr,GZ,c,hel,q,zA]
  | true =>
   obtain⟨h',IH⟩:=OO code hb rest (pre++[x]) (fH (IntKind.i64.wrap (IntKind.i64.wrap (IntKind.i64.wrap (h*131)+x)+7)) 1073741823) (by rw[hs];simp)
   rw[show ((pre++[x]).length:Int)=(pre.length:Int)+1 by simp]at IH
   refine⟨h',?_⟩
   generalize xE code=E0 at *
   clear hs
   refine zo Tryz.func48 rfl rfl ?_
   simp (disch:=((try simp only[LL]);omega)) only[↓GO,↓DRW,GA,GX,ren,zk,za,refs,z8,cst,zr,isC,bin,una,z7,zd,blt,asArg,zg,zc,zf,z6,E.mkS,unN,ze,zm,zb,GS,simprocAttr,GZ,c,c0,hel,q,hget,Gl,conv,zq,zA,IH]
theorem Qu (code:List Int)(hb:okB code):∃ h:Int,EV Tryz.prog pol (.callO false 48 [.t (.list 1 (xE code))] [])=some (.call (.ptr 0 0 0) [cuR code (0,h)]):=by
 obtain⟨h',L⟩:=OO code hb code [] (445445+(code.length:Int)) rfl
 refine⟨h',?_⟩
 have hel:=vk code
 have hcl:=hb.1
 unfold cuR
 simp only[List.length_nil,Int.natCast_zero]at L ⊢
 generalize xE code=E0 at *
 refine zH Tryz.func48 rfl (by kernel_rfl) ?_
 unfold Tryz.f48
 simp (disch:=((try simp only[LL]);omega)) only[↓GO,↓DRW,GA,GX,ren,zk,za,refs,z8,cst,zr,isC,bin,una,z7,zd,blt,asArg,zg,zc,zf,z6,E.mkS,unN,ze,zm,zb,GS,simprocAttr,GZ,hel,zq,L,zA]
end Go.Proofs.YtefkoljdebekdaaGreatDoor

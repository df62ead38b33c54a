/- Joined: S0 W6 A1 A3 G1 S1 W5 J1 P1 V1 N1 V2 N0 N2 K1. Conditions: those of each lemma. -/
import Derived.Test.YtonbkdklidfmfaaGreatDoorqI
import Derived.Test.YtonbkdklidfmfaaGreatDoorqA
import Derived.Test.YtonbkdklidfmfaaGreatDoorCards
import Derived.Test.YtonbkdklidfmfaaGreatDoorTie
import Derived.WalkKit
import Derived.ProofKit
import Derived.OpenShut
import Derived.Deep.DeepHandedRow
import Derived.Lib.LaidTab
import Derived.Stop.LaidErr
import Derived.Test.YtonbkdklidfmfaaGreatDoorRows
import Derived.ReadAgain
import Derived.Test.YtonbkdklidfmfaaGreatDoorqH
import Derived.Lib.SplitLaws
import Derived.Lib.ItoaMem
import Derived.Lib.AtoiAll
import Derived.Lib.Join
set_option linter.unusedVariables false
set_option linter.unusedSimpArgs false
namespace Go.Proofs.YtonbkdklidfmfaaGreatDoor
open E
set_option linter.unusedSimpArgs false
set_option linter.unusedVariables false
set_option maxRecDepth 100000
def pmT (f d : Nat) : PM :=
 if f = 75 ∧ (d = 14 ∨ d = 18 ∨ d = 20 ∨ d = 22 ∨ d = 24) then .opn false else
 if f = 113 ∧ d = 7 then .opn false else
 if f = 111 ∧ d = 9 then .opn false else
 if f = 173 ∧ d = 9 then .opn false else
 if f = 114 ∧ d = 5 then .opn false else
 if f = 110 ∧ d = 5 then .opn false else
 if f = 191 ∧ (d = 18 ∨ d = 21 ∨ d = 30 ∨ d = 37 ∨ d = 39 ∨ d = 59 ∨ d = 61) then .opn false else
 if f = 136 then .opn false else
 if f = 115 ∧ d = 5 then .opn false else
 if f = 170 ∧ (d = 13 ∨ d = 25) then .opn false else
 if f = 134 then .opn false else
 if f = 109 ∧ (d = 11 ∨ d = 18 ∨ d = 26 ∨ d = 42 ∨ d = 49 ∨ d = 72) then .opn false else
 if f = 74 ∧ (d = 6 ∨ d = 16 ∨ d = 18 ∨ d = 25 ∨ d = 35 ∨ d = 80) then .opn false else
 if f = 76 ∧ (d = 11 ∨ d = 20 ∨ d = 25 ∨ d = 28) then .opn false else
 if f = 22 ∧ (d = 10 ∨ d = 15 ∨ d = 24) then .opn false else
 if f = 22 ∧ d = 12 then .opn true else
 if f = 24 ∧ d = 4 then .opn false else
 if f = 24 ∧ d = 5 then .opn true else
 if f = 25 ∧ (d = 6 ∨ d = 18) then .opn false else
 if f = 3 ∧ (d = 23 ∨ d = 38 ∨ d = 49 ∨ d = 61) then .opn false else
 if f = 3 ∧ d = 26 then .brw else
 if f = 4 ∧ (d = 23 ∨ d = 38 ∨ d = 49 ∨ d = 61) then .opn false else
 if f = 4 ∧ d = 26 then .brw else
 if f = 10 ∧ (d = 14 ∨ d = 28 ∨ d = 34 ∨ d = 38 ∨ d = 56 ∨ d = 64 ∨ d = 106) then .opn false else
 if f = 56 ∧ d = 10 then .opn false else
 if f = 15 ∧ d = 15 then .opn false else
 if f = 8 ∧ d = 69 then .frz else
 if f = 23 ∧ (d = 14 ∨ d = 47) then .opn false else
 if f = 27 ∧ d = 37 then .opn false else
 if f = 71 ∧ (d = 7 ∨ d = 11 ∨ d = 13) then .opn false else
 if f = 9 ∧ (d = 6 ∨ d = 10) then .opn false else
 if f = 44 ∧ d = 20 then .opn false else
 if f = 93 ∧ (d = 15 ∨ d = 22) then .opn false else
 if f = 12 ∧ (d = 8 ∨ d = 12) then .opn false else
 if f = 59 ∧ (d = 42 ∨ d = 58) then .opn false else
 if f = 45 ∧ d = 8 then .opn false else
 if f = 45 ∧ (d = 19 ∨ d = 22) then .brw else
 if f = 181 ∧ d = 11 then .frz else
 if f = 159 ∧ d = 20 then .opn false else
 .pure
def jC (f : Nat) : Bool :=
 if f = 70 then true else
 if f = 109 then true else
 if f = 74 then true else
 if f = 3 then true else
 if f = 4 then true else
 if f = 10 then true else
 if f = 99 then true else
 if f = 50 then true else
 if f = 44 then true else
 if f = 45 then true else
 if f = 49 then true else
 false
def ghT (f n : Nat) : List Gh :=
 if f = 70 ∧ n = 2 then [⟨.unf, 2, some 5, [(3, true), (5, true)], some 1⟩] else
 if f = 70 ∧ n = 3 then [⟨.fold, 2, some 5, [(3, true), (5, true)], some 1⟩] else
 if f = 70 ∧ n = 4 then [⟨.fold, 2, some 5, [(3, true), (5, true)], some 1⟩] else
 if f = 70 ∧ n = 5 then [⟨.fold, 2, some 5, [(3, true), (5, true)], some 1⟩] else
 if f = 109 ∧ n = 3 then [⟨.fold, 3, none, [(1, false)], none⟩, ⟨.unf, 3, none, [(1, false)], none⟩] else
 if f = 109 ∧ n = 9 then [⟨.fold, 3, none, [(0, true)], none⟩] else
 if f = 109 ∧ n = 16 then [⟨.unf, 3, some 7, [(3, true), (5, true)], some 1⟩, ⟨.unf, 3, some 8, [(3, true), (5, true)], some 1⟩] else
 if f = 109 ∧ n = 14 then [⟨.fold, 3, some 7, [(3, true), (5, true)], some 1⟩, ⟨.fold, 3, some 8, [(3, true), (5, true)], some 1⟩] else
 if f = 109 ∧ n = 18 then [⟨.unf, 3, none, [(0, true)], none⟩, ⟨.unf, 3, some 7, [(3, true), (5, true)], some 1⟩] else
 if f = 109 ∧ n = 11 then [⟨.fold, 3, none, [(0, true)], none⟩, ⟨.fold, 3, some 7, [(3, true), (5, true)], some 1⟩] else
 if f = 109 ∧ n = 19 then [⟨.unf, 3, none, [(0, true)], none⟩] else
 if f = 74 ∧ n = 11 then [⟨.unf, 3, some 4, [(5, true)], some 1⟩] else
 if f = 74 ∧ n = 17 then [⟨.unf, 3, some 4, [(3, false)], some 1⟩] else
 if f = 74 ∧ n = 19 then [⟨.unf, 3, some 4, [(3, true), (5, true)], some 1⟩, ⟨.frz, 3, some 4, [(3, true), (5, true)], some 1⟩] else
 if f = 74 ∧ n = 20 then [⟨.frz, 3, some 4, [(3, true), (5, true)], some 1⟩] else
 if f = 44 ∧ n = 4 then [⟨.fold, 3, some 4, [(3, false), (5, false)], none⟩] else
 if f = 59 ∧ n = 10 then [⟨.unf, 0, some 5, [(3, true)], none⟩] else
 if f = 59 ∧ n = 13 then [⟨.unf, 0, some 5, [(5, true)], none⟩] else
 if f = 59 ∧ n = 3 then [⟨.fold, 0, some 5, [(3, true), (5, true)], none⟩] else
 if f = 50 ∧ n = 7 then [⟨.unf, 0, some 6, [(3, true), (5, true)], none⟩] else
 if f = 50 ∧ n = 10 then [⟨.fold, 0, some 5, [(3, true), (5, true)], none⟩] else
 if f = 50 ∧ n = 6 then [⟨.fgt, 0, some 6, [(3, true), (5, true)], none⟩] else
 if f = 10 ∧ n = 2 then [⟨.fold, 5, none, [(1, false)], none⟩, ⟨.unf, 5, none, [(1, false)], none⟩] else
 if f = 10 ∧ n = 11 then [⟨.fold, 5, none, [(0, true), (1, false)], none⟩, ⟨.unf, 5, none, [(0, true), (1, false)], none⟩] else
 if f = 10 ∧ n = 13 then [⟨.unf, 41, some 43, [(5, true)], none⟩] else
 if f = 10 ∧ n = 15 then [⟨.fold, 41, some 43, [(5, true)], none⟩] else
 if f = 10 ∧ n = 22 then [⟨.unf, 70, some 72, [(3, true), (5, true)], none⟩] else
 if f = 10 ∧ n = 25 then [⟨.fgt, 70, some 72, [(3, true), (5, true)], none⟩, ⟨.fold, 8, none, [(3, true), (5, true)], none⟩] else
 if f = 10 ∧ n = 29 then [⟨.fold, 5, none, [(0, true), (1, false)], none⟩, ⟨.unf, 5, none, [(0, true), (1, false)], none⟩] else
 if f = 10 ∧ n = 33 then [⟨.unf, 12, none, [(3, true)], none⟩] else
 if f = 10 ∧ n = 34 then [⟨.fold, 12, none, [(3, true)], none⟩] else
 if f = 10 ∧ n = 38 then [⟨.fold, 12, none, [(5, true)], none⟩] else
 if f = 25 ∧ n = 6 then [⟨.fold, 3, none, [(1, false)], none⟩, ⟨.unf, 3, none, [(1, false)], none⟩] else
 if f = 42 ∧ n = 2 then [⟨.fold, 5, none, [(0, true), (1, true)], none⟩, ⟨.unf, 5, none, [(0, true), (1, true)], none⟩] else
 if f = 45 ∧ n = 7 then [⟨.fold, 29, none, [(3, false), (5, false)], none⟩] else
 []
def dmT (f n : Nat) : Bool :=
 if f = 70 ∧ (n = 4 ∨ n = 1004) then true else
 if f = 109 ∧ (n = 16 ∨ n = 18) then true else
 if f = 74 ∧ (n = 7 ∨ n = 9 ∨ n = 11 ∨ n = 17 ∨ n = 19) then true else
 if f = 10 ∧ n = 14 then true else
 if f = 45 ∧ n = 5 then true else
 false
def drT (_ : Nat) : Bool := true
def gq (f : Nat) (args : List V) : Option V :=
 if f = 205 then ZO args else
 if f = 108 then ld args else
 if f = 217 then ZP args else
 if f = 202 then ZW args else
 if f = 185 then SS args else
 if f = 152 then iZ args else
 none
def lF (f : Nat) (args : List V) (h : Heap) : Option (V × Heap) :=
 if f = 79 then ZG args h else
 if f = 105 then Ta args h else
 if f = 77 then sK 1 args h else
 if f = 94 then sK 2 args h else
 none
noncomputable def pol : Pol := dK Tryz.prog pmT zB zA drT gq lF jC ghT dmT
theorem lr : ∀ f fn c, pol.no f = false → Tryz.prog.funcs[f]? = some fn → fn.body = some c → xu (nh Tryz.prog pol f) fn.ntmps c = true := fU
theorem DRW : ∀ (rc : Rec) (f m p n : Nat) (fs : List Fr) (k : rR) (e : Env) (h : Heap) (l : List Oper), goC ⟨Tryz.prog, pol, rc, f, m⟩ (.region n l.toArray true) p fs k e h = goD ⟨Tryz.prog, pol, rc, f, m⟩ (l.all (ym pol f)) (jC f && dmT f n) (dmT f (n + 1000)) l fs k e (ghH (ghT f n) e h) := fun _ _ _ _ _ _ _ _ _ _ => eR _ _ _ _ _ _ _ _ rfl
theorem LVS : ∀ f p, pol.live f p = zB f p := fun _ _ => rfl
theorem OVS : ∀ f p, pol.outs f p = zA f p := fun _ _ => rfl
theorem PMS : ∀ f d, pol.pm f d = pmT f d := fun _ _ => rfl
theorem OWS : ∀ f, pol.own f = jC f := fun _ => rfl
theorem DMS : ∀ f n, pol.dm f n = dmT f n := fun _ _ => rfl
theorem GHS : ∀ f n, pol.gh f n = ghT f n := fun _ _ => rfl
theorem GS : type_of% @LVS ∧ type_of% @OVS ∧ type_of% @LTS ∧ type_of% @TYS ∧ type_of% @PMS ∧ type_of% @OWS ∧ type_of% @GHS ∧ type_of% @DMS ∧ type_of% @pmT.eq_1 ∧ type_of% @jC.eq_1 ∧ type_of% @ghT.eq_1 ∧ type_of% @dmT.eq_1 := ⟨@LVS, @OVS, @LTS, @TYS, @PMS, @OWS, @GHS, @DMS, @pmT.eq_1, @jC.eq_1, @ghT.eq_1, @dmT.eq_1⟩
theorem mO (f : Nat) (args : List V) (h : Heap) : pol.extO f args h = lF f args h := rfl
theorem pn (f : Nat) (args : List V) : pol.ext f args = gq f args := rfl
def gl (W0 : World) : Prop :=
 Lib.TabIs Tryz.prog W0 "internal/strconv.uint64pow10" .u64 Lib.pow10Tab ∧
 ((∃ tp p, W0.var? Tryz.prog "strconv.ErrSyntax" = some #[.iface tp p]) ∧ (∃ tp p, W0.var? Tryz.prog "strconv.ErrRange" = some #[.iface tp p])) ∧
 (∃ m, W0.cell? ⟨Tryz.th.g 1, 0, none⟩ = some (.int .i64 m)) ∧
 True
theorem S5 (W0 : World) (hL : gl W0) (g : Nat) : qu Tryz.prog W0 g (pol.extO g) := by
 intro args h v h' hv
 have hv' : lF g args h = some (v, h') := hv
 clear hv
 unfold lF at hv'
 by_cases hg : g = 79
 · subst hg
   rw [if_pos rfl] at hv'
   exact To W0 args h v h' hv'
 rw [if_neg hg] at hv'
 clear hg
 by_cases hg : g = 105
 · subst hg
   rw [if_pos rfl] at hv'
   exact Sb W0 args h v h' hv'
 rw [if_neg hg] at hv'
 clear hg
 by_cases hg : g = 77
 · subst hg
   rw [if_pos rfl] at hv'
   exact Yu W0 args h v h' hv'
 rw [if_neg hg] at hv'
 clear hg
 by_cases hg : g = 94
 · subst hg
   rw [if_pos rfl] at hv'
   exact Yv W0 args h v h' hv'
 rw [if_neg hg] at hv'
 clear hg
 cases hv'
theorem RS (W0 : World) (hL : gl W0) : lJ Tryz.prog W0 pol := by
 refine ⟨?_, S5 W0 hL⟩
 intro g args v hv
 have hv' : gq g args = some v := hv
 clear hv
 unfold gq at hv'
 by_cases hg : g = 205
 · subst hg
   rw [if_pos rfl] at hv'
   exact TU W0 args v hv'
 rw [if_neg hg] at hv'
 clear hg
 by_cases hg : g = 108
 · subst hg
   rw [if_pos rfl] at hv'
   exact cB W0 args v hv'
 rw [if_neg hg] at hv'
 clear hg
 by_cases hg : g = 217
 · subst hg
   rw [if_pos rfl] at hv'
   exact TV W0 hL.1 args v hv'
 rw [if_neg hg] at hv'
 clear hg
 by_cases hg : g = 202
 · subst hg
   rw [if_pos rfl] at hv'
   exact SC W0 hL.2.1.1 hL.2.1.2 args v hv'
 rw [if_neg hg] at hv'
 clear hg
 by_cases hg : g = 185
 · subst hg
   rw [if_pos rfl] at hv'
   exact RX W0 hL.2.2.1 args v hv'
 rw [if_neg hg] at hv'
 clear hg
 by_cases hg : g = 152
 · subst hg
   rw [if_pos rfl] at hv'
   exact XK W0 hL.2.2.1 args v hv'
 rw [if_neg hg] at hv'
 clear hg
 cases hv'
theorem Qc (ks : List Str) (sep : Str) (h1 : ks.length ≤ 140737488355328) (h2 : (Lib.join ks sep).length ≤ 140737488355328) : zo (EV Tryz.prog pol) 205 [.t (.list 1 (strs ks)), .t (.str sep)] = some (.t (.str (Lib.join ks sep))) :=
 zw (lC (by rw [pn]; unfold gq; simp (config := { decide := true }) only [if_true, if_false, reduceIte, ZO, s9]; rw [if_pos ⟨h1, h2⟩]))
theorem Qd (n : Int) (h1 : -9223372036854775808 ≤ n) (h2 : n ≤ 9223372036854775807) : zo (EV Tryz.prog pol) 217 [.t (.int .i64 n)] = some (.t (.str (Lib.itoa n))) :=
 zw (lC (by rw [pn]; unfold gq; simp (config := { decide := true }) only [if_true, if_false, reduceIte, ZP]; rw [if_pos ⟨h1, h2⟩]))
theorem Qj (s : Str) (h : s.length ≤ 281474976710656) : zo (EV Tryz.prog pol) 202 [.t (.str s)] = some (match Lib.atoiAll s with
 | .ok v => .tup [.t (.int .i64 v), .t .nili]
 | Lib.NumEnd.syntax => .tup [.t (.int .i64 0), .t .nni]
 | .range => .tup [.t (.int .i64 (Lib.atoiSat s)), .t .nni]) :=
 zw (lC (by rw [pn]; unfold gq; simp (config := { decide := true }) only [if_true, if_false, reduceIte, ZW]; rw [if_pos h]; cases Lib.atoiAll s <;> rfl))
theorem c_cut (s sep : Str) (h : s.length < 4294967281) : zo (EV Tryz.prog pol) 185 [.t (.str s), .t (.str sep)] = some (.tup [.t (.str (Lib.cut s sep).1), .t (.str (Lib.cut s sep).2.1), .t (.bool (Lib.cut s sep).2.2)]) :=
 zw (lC (by rw [pn]; unfold gq; simp (config := { decide := true }) only [if_true, if_false, reduceIte, SS]; rw [if_pos h]))
theorem iT (s sep : Str) (h : s.length < 4294967281) (h1 : 1 ≤ sep.length) : zo (EV Tryz.prog pol) 152 [.t (.str s), .t (.str sep)] = some (.t (.list 1 (strs (lq s sep)))) :=
 zw (lC (by rw [pn]; unfold gq; simp (config := { decide := true }) only [if_true, if_false, reduceIte, iZ]; rw [if_pos ⟨h, h1⟩]))
theorem tc (es : List (List T)) (h : es.length ≤ 4194304) : EV Tryz.prog pol (.callO false 77 [.t (.list 1 es)] []) = some (.call (.sl 0 0 es.length none) [.ts 1 es]) :=
 iY (x := (.sl 0 0 es.length none, [.ts 1 es])) (by rw [mO]; unfold lF; simp (config := { decide := true }) only [if_true, if_false, reduceIte, sK]; rw [if_pos ⟨trivial, h⟩])
theorem dz (es : List (List T)) (h : es.length ≤ 4194304) : EV Tryz.prog pol (.callO false 94 [.t (.list 2 es)] []) = some (.call (.sl 0 0 es.length none) [.ts 2 es]) :=
 iY (x := (.sl 0 0 es.length none, [.ts 2 es])) (by rw [mO]; unfold lF; simp (config := { decide := true }) only [if_true, if_false, reduceIte, sK]; rw [if_pos ⟨trivial, h⟩])
theorem Q3 (ks : List Str) (h : ks.length ≤ 1073741824) (n : Nat) (hn : n = ks.length) (cap : Option Nat) : EV Tryz.prog pol (.callO false 79 [.sl 0 0 n cap] [.ts 1 (strs ks)]) = some (.call (.tup []) [.ts 1 (strs (wz ks))]) :=
 iY (x := (.tup [], [.ts 1 (strs (wz ks))])) (by rw [mO]; unfold lF; simp (config := { decide := true }) only [if_true, if_false, reduceIte, ZG, s9]; rw [if_pos ⟨hn, h⟩])
end Go.Proofs.YtonbkdklidfmfaaGreatDoor
/- The start's memory: what the rows' lists give. Conditions: none. -/
namespace Go.Proofs.YtonbkdklidfmfaaGreatDoor
open Go.ChangeShapes Go.WideShapes Go.ChangeAt Go.RowKit E
set_option maxRecDepth 100000
set_option linter.unusedVariables false
set_option linter.unusedSimpArgs false
theorem star : "*" ++ "errors.errorString" = "*errors.errorString" := by decide
theorem rowE (u : TypeId) (h : Tryz.prog.typeName? 3 u = some "*errors.errorString") : u = 227 :=
 typeName_ptr_named (nm := "errors.errorString") (by rw [star]; kernel_rfl) (by kernel_rfl) (by decide) u (by rw [star]; exact h)
theorem cr {W : World} (hS : W.ShapedOpen Tryz.prog) (h1 : ∃ r, laidMet Tryz.prog (("internal/strconv.uint64pow10", Rows.laid_internal_strconv_uint64pow10) :: r) W)
 (h2 : ∃ r, laidMet Tryz.prog (("strconv.ErrRange", Rows.laid_strconv_ErrRange) :: r) W) (h3 : ∃ r, laidMet Tryz.prog (("strconv.ErrSyntax", Rows.laid_strconv_ErrSyntax) :: r) W) : gl W := by
 obtain ⟨r1, h1⟩ := h1
 obtain ⟨r2, h2⟩ := h2
 obtain ⟨r3, h3⟩ := h3
 refine ⟨Lib.tabIs_of_head (k := .u64) (zs := Lib.pow10Tab) (rest := r1) (show Tryz.prog.globalNamed "internal/strconv.uint64pow10" = some 5 by kernel_rfl) (show (Tryz.prog.globals[5]?).map (·.type) = some 235 by kernel_rfl)
  Tryz.underlying235 Tryz.underlying146 (by kernel_rfl) (by kernel_rfl) h1, ⟨?_, ?_⟩, ?_, trivial⟩
 · obtain ⟨a, s, q1, _⟩ := laid_sentinel (nm := "*errors.errorString") h3 (show Tryz.prog.globalNamed "strconv.ErrSyntax" = some 3 by kernel_rfl) (show (Tryz.prog.globals[3]?).map (·.type) = some 192 by kernel_rfl) Tryz.underlying192 rowE
    Tryz.underlying227 Tryz.underlying229 rfl rfl Tryz.underlying9 (by kernel_rfl) (by kernel_rfl)
   exact ⟨_, _, q1⟩
 · obtain ⟨a, s, q1, _⟩ := laid_sentinel (nm := "*errors.errorString") h2 (show Tryz.prog.globalNamed "strconv.ErrRange" = some 4 by kernel_rfl) (show (Tryz.prog.globals[4]?).map (·.type) = some 192 by kernel_rfl) Tryz.underlying192 rowE
    Tryz.underlying227 Tryz.underlying229 rfl rfl Tryz.underlying9 (by kernel_rfl) (by kernel_rfl)
   exact ⟨_, _, q1⟩
 · exact Tryz.eC.s1_3 W hS
end Go.Proofs.YtonbkdklidfmfaaGreatDoor
/- The laws' own functions over lists of texts. Conditions: those of each lemma. -/
namespace Go.Proofs.YtonbkdklidfmfaaGreatDoor
open E
set_option linter.unusedSimpArgs false
set_option linter.unusedVariables false
set_option maxRecDepth 100000
theorem oP (ks : List (List UInt8)) (hl : ks.length ≤ 134217728) : ∀ (d i : Nat), ks.length - i = d → i ≤ ks.length →
 EV Tryz.prog pol (.loop 16 58 0 [.t (.list 1 (strs ks)), .t (.list 1 (strs ks)), .t (.int .i64 (i : Int))] []) = some (.loop (.exit 0) [.bad] [])
 | 0, i, hd, hi => by
  have hi' : i = ks.length := by omega
  subst hi'
  refine zj Tryz.func16 rfl rfl ?_
  have c : decide (((ks.length : Nat) : Int) < ((ks.length : Nat) : Int)) = false := by simp
  simp only [↓GO, ↓DRW, GA, GX, ren, zm, za, refs, z8, cst, zq, isC, bin, una, z6, zd, blt, asArg, zg, zc, zf, z1, E.mkS, unN, ze, zn, zb, GS, simprocAttr, zi, c]
 | d + 1, i, hd, hi => by
  have hlt : i < ks.length := by omega
  have c : decide ((i : Int) < ((ks.length : Nat) : Int)) = true := by simp; omega
  have IH := oP ks hl d (i + 1) (by omega) (by omega)
  have e1 : (i : Int) + 1 = ((i + 1 : Nat) : Int) := by omega
  refine zj Tryz.func16 rfl rfl ?_
  simp (disch := omega) only [↓GO, ↓DRW, GA, GX, ren, zm, za, refs, z8, cst, zq, isC, bin, una, z6, zd, blt, asArg, zg, zc, zf, z1, E.mkS, unN, ze, zn, zb, GS, simprocAttr, zi, c, uR ks i hlt, zk, e1]
  exact IH
theorem n6 (ks : List (List UInt8)) (hl : ks.length ≤ 134217728) : zo (EV Tryz.prog pol) 16 [.t (.list 1 (strs ks)), .t (.list 1 (strs ks))] = some (.t (.bool true)) := by
 apply zw
 refine zy rfl Tryz.func16 rfl (by kernel_rfl) ?_
 unfold Tryz.f16
 have IH := oP ks hl ks.length 0 (by omega) (by omega)
 simp only [Int.natCast_zero] at IH
 simp only [↓GO, ↓DRW, GA, GX, ren, zm, za, refs, z8, cst, zq, isC, bin, una, z6, zd, blt, asArg, zg, zc, zf, z1, E.mkS, unN, ze, zn, zb, GS, simprocAttr, zi, IH, bne_self_eq_false]
end Go.Proofs.YtonbkdklidfmfaaGreatDoor
/- What the laws' own functions do over Field, Table: sizes, copies, comparisons. Conditions: those of each lemma. -/
namespace Go.Proofs.YtonbkdklidfmfaaGreatDoor
open E
set_option linter.unusedSimpArgs false
set_option linter.unusedVariables false
set_option maxRecDepth 100000
structure yw where
 key : List UInt8
 text : List UInt8
 list : List (List UInt8)
 isList : Bool
def yw.enc (x : yw) : List T := [.str x.key, .str x.text, .list 1 (strs x.list), .bool x.isList]
def yw.zh (l : List yw) : List (List T) := l.map yw.enc
def yw.y7 (x : yw) : Nat := x.key.length + x.text.length + (x.list.length + yl x.list)
def yw.yi : List yw → Nat
 | [] => 0
 | c :: cs => yw.y7 c + yw.yi cs
def yw.ok (x : yw) : Prop := x.key.length ≤ 9223372036854775807 ∧ x.text.length ≤ 9223372036854775807 ∧ x.list.length ≤ 9223372036854775807 ∧ (∀ s ∈ x.list, s.length ≤ 9223372036854775807)
theorem yw.vK (x : yw) : x.enc.length = 4 := rfl
theorem yw.wN (x : yw) : x.enc.take 4 = x.enc := rfl
theorem yw.zu (cs : List yw) : (yw.zh cs).length = cs.length := by simp [yw.zh]
theorem yw.w6 (cs : List yw) (i : Nat) (h : i < cs.length) : (yw.zh cs)[i]? = some cs[i].enc := by simp [yw.zh, h]
theorem yw.yp : ∀ {cs : List yw} {c : yw}, c ∈ cs → c.y7 ≤ yw.yi cs
 | c' :: cs, c, h => by
  simp only [yw.yi]
  rcases List.mem_cons.1 h with rfl | h
  · omega
  · have := yw.yp h; omega
structure yD where
 name : List UInt8
 fields : List yw
def yD.enc (x : yD) : List T := [.str x.name, .list 4 (yw.zh x.fields)]
def yD.zh (l : List yD) : List (List T) := l.map yD.enc
def yD.y7 (x : yD) : Nat := x.name.length + (x.fields.length + yw.yi x.fields)
def yD.yi : List yD → Nat
 | [] => 0
 | c :: cs => yD.y7 c + yD.yi cs
def yD.ok (x : yD) : Prop := x.name.length ≤ 9223372036854775807 ∧ x.fields.length ≤ 9223372036854775807 ∧ (∀ y ∈ x.fields, y.ok)
theorem yD.vK (x : yD) : x.enc.length = 2 := rfl
theorem yD.wN (x : yD) : x.enc.take 2 = x.enc := rfl
theorem yD.zu (cs : List yD) : (yD.zh cs).length = cs.length := by simp [yD.zh]
theorem yD.w6 (cs : List yD) (i : Nat) (h : i < cs.length) : (yD.zh cs)[i]? = some cs[i].enc := by simp [yD.zh, h]
theorem yD.yp : ∀ {cs : List yD} {c : yD}, c ∈ cs → c.y7 ≤ yD.yi cs
 | c' :: cs, c, h => by
  simp only [yD.yi]
  rcases List.mem_cons.1 h with rfl | h
  · omega
  · have := yD.yp h; omega
end Go.Proofs.YtonbkdklidfmfaaGreatDoor
/- What the laws' own functions do over Sum, Pack, Graph: sizes, copies, comparisons. Conditions: those of each lemma. -/
namespace Go.Proofs.YtonbkdklidfmfaaGreatDoor
open E
set_option linter.unusedSimpArgs false
set_option linter.unusedVariables false
set_option maxRecDepth 100000
structure zC where
 alg : List UInt8
 bytes : List UInt8
def zC.enc (x : zC) : List T := [.str x.alg, .str x.bytes]
def zC.zh (l : List zC) : List (List T) := l.map zC.enc
def zC.y7 (x : zC) : Nat := x.alg.length + x.bytes.length
def zC.yi : List zC → Nat
 | [] => 0
 | c :: cs => zC.y7 c + zC.yi cs
def zC.ok (x : zC) : Prop := x.alg.length ≤ 9223372036854775807 ∧ x.bytes.length ≤ 9223372036854775807
theorem zC.vK (x : zC) : x.enc.length = 2 := rfl
theorem zC.wN (x : zC) : x.enc.take 2 = x.enc := rfl
theorem zC.zu (cs : List zC) : (zC.zh cs).length = cs.length := by simp [zC.zh]
theorem zC.w6 (cs : List zC) (i : Nat) (h : i < cs.length) : (zC.zh cs)[i]? = some cs[i].enc := by simp [zC.zh, h]
theorem zC.yp : ∀ {cs : List zC} {c : zC}, c ∈ cs → c.y7 ≤ zC.yi cs
 | c' :: cs, c, h => by
  simp only [zC.yi]
  rcases List.mem_cons.1 h with rfl | h
  · omega
  · have := zC.yp h; omega
def dP (x : zC) : Prop := zo (EV Tryz.prog pol) 166 [.agg (x.enc.map .t), .agg (x.enc.map .t)] = some (.t (.bool true))
theorem Su (x : zC) (ho : x.y7 ≤ 4194304) : dP x := by
 obtain ⟨alg, bytes⟩ := x
 simp only [zC.y7] at ho
 simp only [dP, zC.enc, List.map_cons, List.map_nil]
 apply zw
 refine zy rfl Tryz.func166 rfl (by kernel_rfl) ?_
 unfold Tryz.f166
 simp only [↓GO, ↓DRW, GA, GX, ren, zm, za, refs, z8, cst, zq, isC, bin, una, z6, zd, blt, asArg, zg, zc, zf, z1, E.mkS, unN, ze, zn, zb, GS, simprocAttr, bne_self_eq_false]
theorem eG (cs : List zC) (hl : cs.length ≤ 4194304) (hc : ∀ c ∈ cs, dP c) : ∀ (d i : Nat), cs.length - i = d → i ≤ cs.length →
 EV Tryz.prog pol (.loop 131 58 0 [.t (.list 2 (zC.zh cs)), .t (.list 2 (zC.zh cs)), .t (.int .i64 (i : Int))] []) = some (.loop (.exit 0) [.bad] [])
 | 0, i, hd, hi => by
  have hi' : i = cs.length := by omega
  subst hi'
  refine zj Tryz.func131 rfl rfl ?_
  have c : decide (((cs.length : Nat) : Int) < ((cs.length : Nat) : Int)) = false := by simp
  simp only [↓GO, ↓DRW, GA, GX, ren, zm, za, refs, z8, cst, zq, isC, bin, una, z6, zd, blt, asArg, zg, zc, zf, z1, E.mkS, unN, ze, zn, zb, GS, simprocAttr, zC.zu, c]
 | d + 1, i, hd, hi => by
  have hlt : i < cs.length := by omega
  have c : decide ((i : Int) < ((cs.length : Nat) : Int)) = true := by simp; omega
  have IH := eG cs hl hc d (i + 1) (by omega) (by omega)
  have e1 : (i : Int) + 1 = ((i + 1 : Nat) : Int) := by omega
  have hcall := hc _ (List.getElem_mem hlt)
  have hget := zC.w6 cs i hlt
  generalize hci : cs[i] = ci at hcall hget
  obtain ⟨alg, bytes⟩ := ci
  simp only [dP, zC.enc, List.map_cons, List.map_nil] at hcall hget
  refine zj Tryz.func131 rfl rfl ?_
  simp (disch := omega) only [↓GO, ↓DRW, GA, GX, ren, zm, za, refs, z8, cst, zq, isC, bin, una, z6, zd, blt, asArg, zg, zc, zf, z1, E.mkS, unN, ze, zn, zb, GS, simprocAttr, zC.zu, c, hget, zk, e1, hcall]
  exact IH
theorem WG (cs : List zC) (hl : cs.length ≤ 4194304) (hc : ∀ c ∈ cs, dP c) : zo (EV Tryz.prog pol) 131 [.t (.list 2 (zC.zh cs)), .t (.list 2 (zC.zh cs))] = some (.t (.bool true)) := by
 apply zw
 refine zy rfl Tryz.func131 rfl (by kernel_rfl) ?_
 unfold Tryz.f131
 have IH := eG cs hl hc cs.length 0 (by omega) (by omega)
 simp only [Int.natCast_zero] at IH
 simp only [↓GO, ↓DRW, GA, GX, ren, zm, za, refs, z8, cst, zq, isC, bin, una, z6, zd, blt, asArg, zg, zc, zf, z1, E.mkS, unN, ze, zn, zb, GS, simprocAttr, zC.zu, IH, bne_self_eq_false]
structure z7 where
 name : List UInt8
 version : List UInt8
 source : List UInt8
 sums : List zC
 dev : Bool
 zr : List (List UInt8)
def z7.enc (x : z7) : List T := [.str x.name, .str x.version, .str x.source, .list 2 (zC.zh x.sums), .bool x.dev, .list 1 (strs x.zr)]
def z7.zh (l : List z7) : List (List T) := l.map z7.enc
def z7.y7 (x : z7) : Nat := x.name.length + x.version.length + x.source.length + (x.sums.length + zC.yi x.sums) + (x.zr.length + yl x.zr)
def z7.yi : List z7 → Nat
 | [] => 0
 | c :: cs => z7.y7 c + z7.yi cs
def z7.ok (x : z7) : Prop := x.name.length ≤ 9223372036854775807 ∧ x.version.length ≤ 9223372036854775807 ∧ x.source.length ≤ 9223372036854775807 ∧ x.sums.length ≤ 9223372036854775807 ∧ (∀ y ∈ x.sums, y.ok) ∧ x.zr.length ≤ 9223372036854775807 ∧ (∀ s ∈ x.zr, s.length ≤ 9223372036854775807)
theorem z7.vK (x : z7) : x.enc.length = 6 := rfl
theorem z7.wN (x : z7) : x.enc.take 6 = x.enc := rfl
theorem z7.zu (cs : List z7) : (z7.zh cs).length = cs.length := by simp [z7.zh]
theorem z7.w6 (cs : List z7) (i : Nat) (h : i < cs.length) : (z7.zh cs)[i]? = some cs[i].enc := by simp [z7.zh, h]
theorem z7.yp : ∀ {cs : List z7} {c : z7}, c ∈ cs → c.y7 ≤ z7.yi cs
 | c' :: cs, c, h => by
  simp only [z7.yi]
  rcases List.mem_cons.1 h with rfl | h
  · omega
  · have := z7.yp h; omega
def lB (x : z7) : Prop := zo (EV Tryz.prog pol) 101 [.agg (x.enc.map .t), .agg (x.enc.map .t)] = some (.t (.bool true))
theorem WH (x : z7) (ho : x.y7 ≤ 4194304) : lB x := by
 obtain ⟨name, version, source, sums, dev, zr⟩ := x
 simp only [z7.y7] at ho
 simp only [lB, z7.enc, List.map_cons, List.map_nil]
 apply zw
 refine zy rfl Tryz.func101 rfl (by kernel_rfl) ?_
 unfold Tryz.f101
 simp only [↓GO, ↓DRW, GA, GX, ren, zm, za, refs, z8, cst, zq, isC, bin, una, z6, zd, blt, asArg, zg, zc, zf, z1, E.mkS, unN, ze, zn, zb, GS, simprocAttr, bne_self_eq_false, WG sums (by omega) (fun c hc => Su c (by have := zC.yp hc; omega)), n6 zr (by omega)]
theorem kQ (cs : List z7) (hl : cs.length ≤ 4194304) (hc : ∀ c ∈ cs, lB c) : ∀ (d i : Nat), cs.length - i = d → i ≤ cs.length →
 EV Tryz.prog pol (.loop 58 58 0 [.t (.list 6 (z7.zh cs)), .t (.list 6 (z7.zh cs)), .t (.int .i64 (i : Int))] []) = some (.loop (.exit 0) [.bad] [])
 | 0, i, hd, hi => by
  have hi' : i = cs.length := by omega
  subst hi'
  refine zj Tryz.func58 rfl rfl ?_
  have c : decide (((cs.length : Nat) : Int) < ((cs.length : Nat) : Int)) = false := by simp
  simp only [↓GO, ↓DRW, GA, GX, ren, zm, za, refs, z8, cst, zq, isC, bin, una, z6, zd, blt, asArg, zg, zc, zf, z1, E.mkS, unN, ze, zn, zb, GS, simprocAttr, z7.zu, c]
 | d + 1, i, hd, hi => by
  have hlt : i < cs.length := by omega
  have c : decide ((i : Int) < ((cs.length : Nat) : Int)) = true := by simp; omega
  have IH := kQ cs hl hc d (i + 1) (by omega) (by omega)
  have e1 : (i : Int) + 1 = ((i + 1 : Nat) : Int) := by omega
  have hcall := hc _ (List.getElem_mem hlt)
  have hget := z7.w6 cs i hlt
  generalize hci : cs[i] = ci at hcall hget
  obtain ⟨name, version, source, sums, dev, zr⟩ := ci
  simp only [lB, z7.enc, List.map_cons, List.map_nil] at hcall hget
  refine zj Tryz.func58 rfl rfl ?_
  simp (disch := omega) only [↓GO, ↓DRW, GA, GX, ren, zm, za, refs, z8, cst, zq, isC, bin, una, z6, zd, blt, asArg, zg, zc, zf, z1, E.mkS, unN, ze, zn, zb, GS, simprocAttr, z7.zu, c, hget, zk, e1, hcall]
  exact IH
theorem Yz (cs : List z7) (hl : cs.length ≤ 4194304) (hc : ∀ c ∈ cs, lB c) : zo (EV Tryz.prog pol) 58 [.t (.list 6 (z7.zh cs)), .t (.list 6 (z7.zh cs))] = some (.t (.bool true)) := by
 apply zw
 refine zy rfl Tryz.func58 rfl (by kernel_rfl) ?_
 unfold Tryz.f58
 have IH := kQ cs hl hc cs.length 0 (by omega) (by omega)
 simp only [Int.natCast_zero] at IH
 simp only [↓GO, ↓DRW, GA, GX, ren, zm, za, refs, z8, cst, zq, isC, bin, una, z6, zd, blt, asArg, zg, zc, zf, z1, E.mkS, unN, ze, zn, zb, GS, simprocAttr, z7.zu, IH, bne_self_eq_false]
structure zz where
 top : List (List UInt8)
 packs : List z7
def zz.enc (x : zz) : List T := [.list 1 (strs x.top), .list 6 (z7.zh x.packs)]
def zz.zh (l : List zz) : List (List T) := l.map zz.enc
def zz.y7 (x : zz) : Nat := (x.top.length + yl x.top) + (x.packs.length + z7.yi x.packs)
def zz.yi : List zz → Nat
 | [] => 0
 | c :: cs => zz.y7 c + zz.yi cs
def zz.ok (x : zz) : Prop := x.top.length ≤ 9223372036854775807 ∧ (∀ s ∈ x.top, s.length ≤ 9223372036854775807) ∧ x.packs.length ≤ 9223372036854775807 ∧ (∀ y ∈ x.packs, y.ok)
theorem zz.vK (x : zz) : x.enc.length = 2 := rfl
theorem zz.wN (x : zz) : x.enc.take 2 = x.enc := rfl
theorem zz.zu (cs : List zz) : (zz.zh cs).length = cs.length := by simp [zz.zh]
theorem zz.w6 (cs : List zz) (i : Nat) (h : i < cs.length) : (zz.zh cs)[i]? = some cs[i].enc := by simp [zz.zh, h]
theorem zz.yp : ∀ {cs : List zz} {c : zz}, c ∈ cs → c.y7 ≤ zz.yi cs
 | c' :: cs, c, h => by
  simp only [zz.yi]
  rcases List.mem_cons.1 h with rfl | h
  · omega
  · have := zz.yp h; omega
def ZF (x : zz) : Prop := zo (EV Tryz.prog pol) 11 [.agg (x.enc.map .t), .agg (x.enc.map .t)] = some (.t (.bool true))
theorem c_eqGraph (x : zz) (ho : x.y7 ≤ 4194304) : ZF x := by
 obtain ⟨top, packs⟩ := x
 simp only [zz.y7] at ho
 simp only [ZF, zz.enc, List.map_cons, List.map_nil]
 apply zw
 refine zy rfl Tryz.func11 rfl (by kernel_rfl) ?_
 unfold Tryz.f11
 simp only [↓GO, ↓DRW, GA, GX, ren, zm, za, refs, z8, cst, zq, isC, bin, una, z6, zd, blt, asArg, zg, zc, zf, z1, E.mkS, unN, ze, zn, zb, GS, simprocAttr, bne_self_eq_false, n6 top (by omega), Yz packs (by omega) (fun c hc => WH c (by have := z7.yp hc; omega))]
end Go.Proofs.YtonbkdklidfmfaaGreatDoor
/- The seat's own facts: the conditions on the program. Conditions: none. -/
namespace Go.Proofs.YtonbkdklidfmfaaGreatDoor
open E
theorem Tryz.own : ownKnob Tryz.prog.godebug = none := by kernel_rfl
theorem Tryz.kids : Kids Tryz.prog (· < Tryz.prog.types.size) := kids_rows (by kernel_rfl) (by kernel_rfl)
theorem Tryz.full : ∀ t e, t < Tryz.prog.types.size → Tryz.prog.underlying t = some (.slice e) → 0 < Tryz.prog.cellsOf e := slices_full_of Tryz.prog (by kernel_rfl)
end Go.Proofs.YtonbkdklidfmfaaGreatDoor
/- What the laws' arguments are: Sum, Pack, Graph. Conditions: those of each lemma. -/
namespace Go.Proofs.YtonbkdklidfmfaaGreatDoor
open E
set_option linter.unusedSimpArgs false
set_option linter.unusedVariables false
set_option maxRecDepth 100000
end Go.Proofs.YtonbkdklidfmfaaGreatDoor
/- The numbers that the draws take: from each state the chosen one is reached. Conditions: none. -/
namespace Go.Proofs.YtonbkdklidfmfaaGreatDoor
open E
set_option linter.unusedVariables false
set_option linter.unusedSimpArgs false
def Fn (a c : Int) : Nat → Int → Int
 | 0, x => x
 | n + 1, x => a * Fn a c n x + c
theorem bX (a c : Int) : ∀ m n x, Fn a c (m + n) x = Fn a c m (Fn a c n x)
 | 0, n, x => by rw [Nat.zero_add]; rfl
 | m + 1, n, x => by rw [show m + 1 + n = (m + n) + 1 by omega, Fn, Fn, bX a c m n x]
theorem UT (a c s0 t0 : Int) (ha : a = 1 + 4 * s0) (hc : c = 2 * t0 + 1) : ∀ k : Nat, ∃ s t : Int, ∀ x, Fn a c (2 ^ k) x = x + 4 * 2 ^ k * s * x + 2 ^ k * (2 * t + 1)
 | 0 => ⟨s0, t0, fun x => by
  show a * x + c = _
  subst ha hc
  grind⟩
 | k + 1 => by
  obtain ⟨s, t, h⟩ := UT a c s0 t0 ha hc k
  refine ⟨s + 2 * 2 ^ k * s * s, t + 2 ^ k * s * (2 * t + 1), fun x => ?_⟩
  rw [show (2 : Nat) ^ (k + 1) = 2 ^ k + 2 ^ k by rw [Nat.pow_succ]; omega, bX, h, h, Int.pow_succ]
  generalize (2 : Int) ^ k = p
  grind
theorem dJ (a c s0 t0 : Int) (ha : a = 1 + 4 * s0) (hc : c = 2 * t0 + 1) (x y : Int) : ∀ k : Nat, ∃ (n : Nat) (q : Int), Fn a c n x = y + 2 ^ k * q
 | 0 => ⟨0, x - y, by show x = _; grind⟩
 | k + 1 => by
  obtain ⟨n, q, h⟩ := dJ a c s0 t0 ha hc x y k
  obtain ⟨s, t, g⟩ := UT a c s0 t0 ha hc k
  rcases Int.emod_two_eq q with e | e
  · refine ⟨n, q / 2, ?_⟩
    have e2 : q = 2 * (q / 2) := by omega
    rw [h, Int.pow_succ]
    generalize (2 : Int) ^ k = p at *
    generalize q / 2 = r at *
    subst e2
    grind
  · refine ⟨2 ^ k + n, q / 2 + t + 1 + 2 * s * (y + 2 ^ k * q), ?_⟩
    have e2 : q = 2 * (q / 2) + 1 := by omega
    rw [bX, h, g, Int.pow_succ]
    generalize (2 : Int) ^ k = p at *
    generalize q / 2 = r at *
    subst e2
    grind
def w64 (x : Int) : Int := IntKind.i64.wrap x
theorem iy (x : Int) : ∃ q : Int, w64 x = x + 2 ^ 64 * q := by
 refine ⟨-((x + 9223372036854775808) / 18446744073709551616), ?_⟩
 unfold w64
 rw [IntKind.wrap_i64]
 omega
theorem VX (x : Int) : -9223372036854775808 ≤ w64 x ∧ w64 x ≤ 9223372036854775807 := by
 unfold w64
 rw [IntKind.wrap_i64]
 omega
theorem w64_eq {x y q : Int} (hy : -9223372036854775808 ≤ y ∧ y ≤ 9223372036854775807) (h : x = y + 2 ^ 64 * q) : w64 x = y := by
 obtain ⟨q', e⟩ := iy x
 have := VX x
 omega
def lcA : Int := 6364136223846793005
def lcC : Int := 1442695040888963407
def lcg (h : Int) : Int := w64 (w64 (h * lcA) + lcC)
def pr : Nat → Int → Int
 | 0, h => h
 | n + 1, h => lcg (pr n h)
theorem eA : ∀ m n h, pr (m + n) h = pr m (pr n h)
 | 0, n, h => by rw [Nat.zero_add]; rfl
 | m + 1, n, h => by rw [show m + 1 + n = (m + n) + 1 by omega, pr, pr, eA m n h]
theorem Ur (h : Int) : -9223372036854775808 ≤ lcg h ∧ lcg h ≤ 9223372036854775807 := VX _
theorem aM (h : Int) : ∀ n, ∃ q, pr n h = Fn lcA lcC n h + 2 ^ 64 * q
 | 0 => ⟨0, by show h = h + _; omega⟩
 | n + 1 => by
  obtain ⟨q, e⟩ := aM h n
  show ∃ q, lcg (pr n h) = lcA * Fn lcA lcC n h + lcC + 2 ^ 64 * q
  unfold lcg
  obtain ⟨q1, e1⟩ := iy (pr n h * lcA)
  obtain ⟨q2, e2⟩ := iy (w64 (pr n h * lcA) + lcC)
  refine ⟨lcA * q + q1 + q2, ?_⟩
  rw [e2, e1, e]
  generalize lcA = a
  generalize Fn a lcC n h = z
  generalize lcC = c
  generalize (2 : Int) ^ 64 = p
  grind
theorem Yi (h y : Int) (hh : -9223372036854775808 ≤ h ∧ h ≤ 9223372036854775807) (hy : -9223372036854775808 ≤ y ∧ y ≤ 9223372036854775807) : ∃ n, pr n h = y := by
 obtain ⟨n, q, e⟩ := dJ lcA lcC 1591034055961698251 721347520444481703 (by decide) (by decide) h y 64
 obtain ⟨q', e'⟩ := aM h n
 refine ⟨n, ?_⟩
 have hr : -9223372036854775808 ≤ pr n h ∧ pr n h ≤ 9223372036854775807 := by
  cases n with
  | zero => exact hh
  | succ n => exact Ur _
 omega
def SV (x y : Int) : Int := IntKind.i64.wrap (((BitVec.ofInt 64 x ^^^ BitVec.ofInt 64 y).toNat : Nat) : Int)
def iu (x y : Int) : Int := IntKind.i64.wrap (((BitVec.ofInt 64 x &&& BitVec.ofInt 64 y).toNat : Nat) : Int)
theorem US (x : Int) : ∃ n : Nat, n ≤ 255 ∧ iu x 255 = (n : Int) := by
 have h : (BitVec.ofInt 64 x &&& BitVec.ofInt 64 255).toNat ≤ 255 := by
  rw [BitVec.toNat_and]
  exact Nat.le_trans Nat.and_le_right (by decide)
 refine ⟨_, h, ?_⟩
 unfold iu
 exact zk (by omega)
def JS (h : Int) : Int := iu (SV (h.fdiv (2 ^ 33)) (h.fdiv (2 ^ 45))) 255
abbrev Cs := Nat × Int
def nxI (bs : List Int) (c : Cs) : Int := match bs[c.1]? with
 | some b => iu (w64 (JS (lcg c.2) + b)) 255
 | none => JS (lcg c.2)
def nxC (bs : List Int) (c : Cs) : Cs := match bs[c.1]? with
 | some _ => (c.1 + 1, lcg c.2)
 | none => (c.1, lcg c.2)
theorem aI (bs : List Int) (c : Cs) : ∃ n : Nat, n ≤ 255 ∧ nxI bs c = (n : Int) := by
 unfold nxI
 split
 · exact US _
 · exact US _
def nxN (bs : List Int) (c : Cs) : Nat := (nxI bs c).toNat
theorem RL (bs : List Int) (c : Cs) : nxN bs c ≤ 255 := by
 obtain ⟨n, h1, h2⟩ := aI bs c
 unfold nxN; rw [h2]; simpa using h1
theorem Ul (bs : List Int) (c : Cs) : nxI bs c = (nxN bs c : Int) := by
 obtain ⟨n, h1, h2⟩ := aI bs c
 unfold nxN; rw [h2]; simp
theorem Um (bs : List Int) (c : Cs) (h : c.1 ≤ bs.length) : (nxC bs c).1 ≤ bs.length := by
 unfold nxC
 split
 · rename_i b hb
   have := (List.getElem?_eq_some_iff.1 hb).1
   exact this
 · exact h
def xw (bs : List Int) : Nat → Cs → Cs
 | 0, c => c
 | n + 1, c => xw bs n (nxC bs c)
def ql (bs : List Int) : Cs := (bs.length, 9)
theorem sx (bs : List Int) : ∀ m n c, xw bs (m + n) c = xw bs n (xw bs m c)
 | 0, n, c => by rw [Nat.zero_add]; rfl
 | m + 1, n, c => by rw [show m + 1 + n = (m + n) + 1 by omega, xw, xw, sx bs m n]
theorem mR (bs : List Int) (h : Int) : nxC bs (bs.length, h) = (bs.length, lcg h) := by
 unfold nxC
 simp
theorem pT (bs : List Int) : ∀ n h, xw bs n (bs.length, h) = (bs.length, pr n h)
 | 0, h => rfl
 | n + 1, h => by
  rw [xw, mR, pT bs n]
  congr 1
  have := eA n 1 h
  rw [this]; rfl
theorem a7 (bs : List Int) : ∀ (k : Nat) (c : Cs), c.1 + k = bs.length → ∃ n h, xw bs n c = (bs.length, h)
 | 0, c, hc => ⟨0, c.2, by show c = _; ext1 <;> simp_all⟩
 | k + 1, c, hc => by
  have hb : (nxC bs c).1 + k = bs.length := by
   unfold nxC
   rw [List.getElem?_eq_getElem (show c.1 < bs.length by omega)]
   simp only
   omega
  obtain ⟨n, h, e⟩ := a7 bs k (nxC bs c) hb
  exact ⟨n + 1, h, e⟩
theorem dY (bs : List Int) (c : Cs) (hc : c.1 ≤ bs.length) : ∃ n, xw bs n c = ql bs := by
 obtain ⟨n, h, e⟩ := a7 bs (bs.length - c.1) c (by omega)
 obtain ⟨m, e2⟩ := Yi (lcg h) 9 (Ur h) (by decide)
 refine ⟨n + (1 + m), ?_⟩
 rw [sx, e, sx, pT, pT]
 show (bs.length, pr m (lcg h)) = _
 rw [e2]; rfl
theorem XJ (bs : List Int) : nxN bs (ql bs) = 179 ∧ nxN bs (nxC bs (ql bs)) = 203 ∧ nxN bs (nxC bs (nxC bs (ql bs))) = 89 := by
 unfold ql
 rw [mR, mR]
 unfold nxN nxI
 simp only [List.getElem?_eq_none (Nat.le_refl bs.length)]
 exact ⟨by decide +kernel, by decide +kernel, by decide +kernel⟩
end Go.Proofs.YtonbkdklidfmfaaGreatDoor
/- Small tests on bytes and numbers; keys. Conditions: those of each lemma. -/
namespace Go.Proofs.YtonbkdklidfmfaaGreatDoor
open E
set_option linter.unusedSimpArgs false
set_option linter.unusedVariables false
set_option maxRecDepth 100000
theorem sE (a lo hi : Int) : zo (EV Tryz.prog pol) 46 [.t (.int .i64 a), .t (.int .i64 lo), .t (.int .i64 hi)] = some (.t (.bool (B2 a lo hi))) := by
 apply zw
 refine zy rfl Tryz.func46 rfl (by kernel_rfl) ?_
 unfold Tryz.f46
 unfold B2
 repeat' (first | (((first | with_reducible refine ou (fun hA => ?_) (fun hA => ?_) | with_reducible refine oo (fun hA => ?_) (fun hA => ?_)) <;> (try simp only [bne, Bool.not_eq_true', Bool.not_eq_false'] at hA) <;> (first | (have hP := Int.le_of_eq (eq_of_beq (α := Int) hA); have hQ := Int.le_of_eq (eq_of_beq (α := Int) hA).symm) | have hP := of_decide_eq_true hA | have hP := of_decide_eq_false hA | skip)) <;> (simp (disch := ((try simp only [LL]); omega)) only [↓GO, ↓DRW, GA, GX, ren, zm, za, refs, z8, cst, zq, isC, bin, una, z6, zd, blt, asArg, zg, zc, zf, z1, E.mkS, unN, ze, zn, zb, GS, simprocAttr, zk, bne, *])) | (simp (disch := ((try simp only [LL]); omega)) only [↓GO, ↓DRW, GA, GX, ren, zm, za, refs, z8, cst, zq, isC, bin, una, z6, zd, blt, asArg, zg, zc, zf, z1, E.mkS, unN, ze, zn, zb, GS, simprocAttr, zk, bne, *]))
theorem wq (a lo hi : Int) : zo (EV Tryz.prog pol) 90 [.t (.int .i64 a), .t (.int .i64 lo), .t (.int .i64 hi)] = some (.t (.bool (B2 a lo hi))) := by
 apply zw
 refine zy rfl Tryz.func90 rfl (by kernel_rfl) ?_
 unfold Tryz.f90
 unfold B2
 repeat' (first | (((first | with_reducible refine ou (fun hA => ?_) (fun hA => ?_) | with_reducible refine oo (fun hA => ?_) (fun hA => ?_)) <;> (try simp only [bne, Bool.not_eq_true', Bool.not_eq_false'] at hA) <;> (first | (have hP := Int.le_of_eq (eq_of_beq (α := Int) hA); have hQ := Int.le_of_eq (eq_of_beq (α := Int) hA).symm) | have hP := of_decide_eq_true hA | have hP := of_decide_eq_false hA | skip)) <;> (simp (disch := ((try simp only [LL]); omega)) only [↓GO, ↓DRW, GA, GX, ren, zm, za, refs, z8, cst, zq, isC, bin, una, z6, zd, blt, asArg, zg, zc, zf, z1, E.mkS, unN, ze, zn, zb, GS, simprocAttr, zk, bne, ge_iff_le, *])) | (simp (disch := ((try simp only [LL]); omega)) only [↓GO, ↓DRW, GA, GX, ren, zm, za, refs, z8, cst, zq, isC, bin, una, z6, zd, blt, asArg, zg, zc, zf, z1, E.mkS, unN, ze, zn, zb, GS, simprocAttr, zk, bne, ge_iff_le, *]))
theorem jr (a : Int) : zo (EV Tryz.prog pol) 156 [.t (.int .u8 a)] = some (.t (.bool (B2 a 97 122))) := by
 apply zw
 refine zy rfl Tryz.func156 rfl (by kernel_rfl) ?_
 unfold Tryz.f156
 unfold B2
 repeat' (first | (((first | with_reducible refine ou (fun hA => ?_) (fun hA => ?_) | with_reducible refine oo (fun hA => ?_) (fun hA => ?_)) <;> (try simp only [bne, Bool.not_eq_true', Bool.not_eq_false'] at hA) <;> (first | (have hP := Int.le_of_eq (eq_of_beq (α := Int) hA); have hQ := Int.le_of_eq (eq_of_beq (α := Int) hA).symm) | have hP := of_decide_eq_true hA | have hP := of_decide_eq_false hA | skip)) <;> (simp (disch := ((try simp only [LL]); omega)) only [↓GO, ↓DRW, GA, GX, ren, zm, za, refs, z8, cst, zq, isC, bin, una, z6, zd, blt, asArg, zg, zc, zf, z1, E.mkS, unN, ze, zn, zb, GS, simprocAttr, zk, bne, ge_iff_le, *])) | (simp (disch := ((try simp only [LL]); omega)) only [↓GO, ↓DRW, GA, GX, ren, zm, za, refs, z8, cst, zq, isC, bin, una, z6, zd, blt, asArg, zg, zc, zf, z1, E.mkS, unN, ze, zn, zb, GS, simprocAttr, zk, bne, ge_iff_le, *]))
theorem od (a : Int) : zo (EV Tryz.prog pol) 157 [.t (.int .u8 a)] = some (.t (.bool (B2 a 48 57))) := by
 apply zw
 refine zy rfl Tryz.func157 rfl (by kernel_rfl) ?_
 unfold Tryz.f157
 unfold B2
 repeat' (first | (((first | with_reducible refine ou (fun hA => ?_) (fun hA => ?_) | with_reducible refine oo (fun hA => ?_) (fun hA => ?_)) <;> (try simp only [bne, Bool.not_eq_true', Bool.not_eq_false'] at hA) <;> (first | (have hP := Int.le_of_eq (eq_of_beq (α := Int) hA); have hQ := Int.le_of_eq (eq_of_beq (α := Int) hA).symm) | have hP := of_decide_eq_true hA | have hP := of_decide_eq_false hA | skip)) <;> (simp (disch := ((try simp only [LL]); omega)) only [↓GO, ↓DRW, GA, GX, ren, zm, za, refs, z8, cst, zq, isC, bin, una, z6, zd, blt, asArg, zg, zc, zf, z1, E.mkS, unN, ze, zn, zb, GS, simprocAttr, zk, bne, ge_iff_le, *])) | (simp (disch := ((try simp only [LL]); omega)) only [↓GO, ↓DRW, GA, GX, ren, zm, za, refs, z8, cst, zq, isC, bin, una, z6, zd, blt, asArg, zg, zc, zf, z1, E.mkS, unN, ze, zn, zb, GS, simprocAttr, zk, bne, ge_iff_le, *]))
theorem wrap_u8 (b : UInt8) : IntKind.i64.wrap (b.toNat : Int) = (b.toNat : Int) := by have := UW b; exact zk (by omega)
theorem n5 (b : UInt8) : zo (EV Tryz.prog pol) 149 [.t (.int .u8 (b.toNat : Int))] = some (.t (.bool (B2 (nb b) 97 122 || B2 (nb b) 48 57))) := by
 apply zw
 refine zy rfl Tryz.func149 rfl (by kernel_rfl) ?_
 unfold Tryz.f149
 have h1 := wq (b.toNat : Int) 97 122
 have h2 := wq (b.toNat : Int) 48 57
 repeat' (first | (((first | with_reducible refine ou (fun hA => ?_) (fun hA => ?_) | with_reducible refine oo (fun hA => ?_) (fun hA => ?_)) <;> (try simp only [bne, Bool.not_eq_true', Bool.not_eq_false'] at hA) <;> (first | (have hP := Int.le_of_eq (eq_of_beq (α := Int) hA); have hQ := Int.le_of_eq (eq_of_beq (α := Int) hA).symm) | have hP := of_decide_eq_true hA | have hP := of_decide_eq_false hA | skip)) <;> (simp (disch := ((try simp only [LL]); omega)) only [↓GO, ↓DRW, GA, GX, ren, zm, za, refs, z8, cst, zq, isC, bin, una, z6, zd, blt, asArg, zg, zc, zf, z1, E.mkS, unN, ze, zn, zb, GS, simprocAttr, zk, bne, conv, wrap_u8, *])) | (simp (disch := ((try simp only [LL]); omega)) only [↓GO, ↓DRW, GA, GX, ren, zm, za, refs, z8, cst, zq, isC, bin, una, z6, zd, blt, asArg, zg, zc, zf, z1, E.mkS, unN, ze, zn, zb, GS, simprocAttr, zk, bne, conv, wrap_u8, *]))
theorem Re (f : Nat) (p : UInt8 → Bool) (hp : ∀ b : UInt8, zo (EV Tryz.prog pol) f [.t (.int .u8 (b.toNat : Int))] = some (.t (.bool (p b)))) (s : Str) (hl : s.length ≤ 9223372036854775807) : ∀ (rest pre : Str), s = pre ++ rest →
 EV Tryz.prog pol (.loop 154 26 0 [.t (.str s), .t (.fn f []), .t (.int .i64 (s.length : Int)), .t (.int .i64 (pre.length : Int))] []) = some (cond (rest.all p) (.loop (.exit 0) [.bad] []) (.loop .ret [.t (.bool false)] []))
 | [], pre, hs => by
  have c : decide ((pre.length : Int) < (s.length : Int)) = false := by simp [hs]
  refine zj Tryz.func154 rfl rfl ?_
  simp only [↓GO, ↓DRW, GA, GX, ren, zm, za, refs, z8, cst, zq, isC, bin, una, z6, zd, blt, asArg, zg, zc, zf, z1, E.mkS, unN, ze, zn, zb, GS, simprocAttr, c]
 | b :: rest, pre, hs => by
  have c : decide ((pre.length : Int) < (s.length : Int)) = true := by simp [hs]; omega
  have hget : s[pre.length]? = some b := by rw [hs]; exact tN pre b rest
  have hlen : s.length = pre.length + rest.length + 1 := by rw [hs]; simp; omega
  have e1 : (pre.length : Int) + 1 = ((pre ++ [b]).length : Int) := by simp
  have IH := Re f p hp s hl rest (pre ++ [b]) (by rw [hs]; simp)
  have hb := hp b
  refine zj Tryz.func154 rfl rfl ?_
  cases hpb : p b with
  | true =>
   rw [hpb] at hb
   simp (disch := omega) only [↓GO, ↓DRW, GA, GX, ren, zm, za, refs, z8, cst, zq, isC, bin, una, z6, zd, blt, asArg, zg, zc, zf, z1, E.mkS, unN, ze, zn, zb, GS, simprocAttr, c, hget, zk, hb]
   rw [e1, IH, hpb, Bool.true_and]
  | false =>
   rw [hpb] at hb
   simp (disch := omega) only [↓GO, ↓DRW, GA, GX, ren, zm, za, refs, z8, cst, zq, isC, bin, una, z6, zd, blt, asArg, zg, zc, zf, z1, E.mkS, unN, ze, zn, zb, GS, simprocAttr, c, hget, zk, hb]
   rw [hpb]; rfl
theorem ZV (f : Nat) (p : UInt8 → Bool) (hp : ∀ b : UInt8, zo (EV Tryz.prog pol) f [.t (.int .u8 (b.toNat : Int))] = some (.t (.bool (p b)))) (s : Str) (hl : s.length ≤ 9223372036854775807) :
 zo (EV Tryz.prog pol) 154 [.t (.str s), .t (.fn f [])] = some (.t (.bool (s.all p))) := by
 have IH := Re f p hp s hl s [] rfl
 simp only [List.length_nil, Int.natCast_zero] at IH
 apply zw
 refine zy rfl Tryz.func154 rfl (by kernel_rfl) ?_
 unfold Tryz.f154
 cases hb : s.all p with
 | true => rw [hb] at IH; simp only [cond_true] at IH; simp only [↓GO, ↓DRW, GA, GX, ren, zm, za, refs, z8, cst, zq, isC, bin, una, z6, zd, blt, asArg, zg, zc, zf, z1, E.mkS, unN, ze, zn, zb, GS, simprocAttr, IH]
 | false => rw [hb] at IH; simp only [cond_false] at IH; simp only [↓GO, ↓DRW, GA, GX, ren, zm, za, refs, z8, cst, zq, isC, bin, una, z6, zd, blt, asArg, zg, zc, zf, z1, E.mkS, unN, ze, zn, zb, GS, simprocAttr, IH]
end Go.Proofs.YtonbkdklidfmfaaGreatDoor
/- Texts cut at a byte; names; plain texts. Plain. Conditions: none. -/
namespace Go.Proofs.YtonbkdklidfmfaaGreatDoor
set_option linter.unusedVariables false
set_option linter.unusedSimpArgs false
theorem mo (b : UInt8) (s : Str) : Lib.index (b :: s) [b] = 0 := by rw [Lib.index]; simp [List.isPrefixOf]
theorem oR (x b : UInt8) (s : Str) (h : x ≠ b) : Lib.index (x :: s) [b] = if Lib.index s [b] == -1 then -1 else Lib.index s [b] + 1 := by
 have hp : ([b] : List UInt8).isPrefixOf (x :: s) = false := by simp [List.isPrefixOf, Ne.symm h]
 rw [Lib.index, hp]; simp
theorem rf (b : UInt8) : ∀ s : Str, yS b s ≠ []
 | [] => by simp [yS]
 | x :: s => by
  unfold yS
  split
  · simp
  · split <;> simp
theorem u0 (b : UInt8) (s : Str) : yS b (b :: s) = [] :: yS b s := by rw [yS, if_pos rfl]
theorem wD (b x : UInt8) (s p : Str) (r : List Str) (h : x ≠ b) (e : yS b s = p :: r) : yS b (x :: s) = (x :: p) :: r := by
 rw [yS, if_neg h, e]
theorem kn (b : UInt8) : ∀ s : Str, Lib.split s [b] = yS b s
 | [] => by
  unfold Lib.split
  rw [Lib.count_miss (by simp [Lib.index])]; rfl
 | x :: s => by
  have ih := kn b s
  unfold Lib.split at ih ⊢
  by_cases h : x = b
  · subst h
    rw [Lib.count_cons_eq, Nat.add_comm, Lib.splitK, mo, u0]
    simpa using ih
  · rw [Lib.count_cons_ne x b s h]
    by_cases hm : Lib.index s [b] = -1
    · rw [Lib.count_miss hm] at ih ⊢
      rw [Lib.splitK] at ih ⊢
      exact (wD b x s s [] h ih.symm).symm
    · have hge := Lib.index_ge s [b]
      obtain ⟨j, hj⟩ : ∃ j : Nat, Lib.index s [b] = j := ⟨(Lib.index s [b]).toNat, by omega⟩
      rw [Lib.count_hit (by simp) hj, Nat.add_comm] at ih ⊢
      have hb : (((j : Nat) : Int) == -1) = false := by rw [beq_eq_false_iff_ne]; omega
      have hb2 : (((j : Nat) : Int) + 1 == -1) = false := by rw [beq_eq_false_iff_ne]; omega
      rw [Lib.splitK, hj, hb] at ih
      rw [Lib.splitK, oR x b s h, hj, hb]
      simp only [Bool.false_eq_true, if_false, hb2, Int.toNat_natCast, Nat.add_zero, List.length_cons, List.length_nil, Nat.zero_add] at ih ⊢
      rw [show ((j : Int) + 1).toNat = j + 1 by omega]
      rw [List.take_succ_cons, List.drop_succ_cons]
      exact (wD b x s _ _ h ih.symm).symm
def yc (b : UInt8) : Str → Str × Str × Bool
 | [] => ([], [], false)
 | x :: s => if x = b then ([], s, true) else (x :: (yc b s).1, (yc b s).2.1, (yc b s).2.2)
theorem dq (b : UInt8) : ∀ s : Str, Lib.cut s [b] = yc b s
 | [] => by simp [Lib.cut, yc, Lib.index]
 | x :: s => by
  have ih := dq b s
  by_cases h : x = b
  · subst h
    unfold Lib.cut
    rw [mo, yc, if_pos rfl]; simp
  · rw [yc, if_neg h, ← ih]
    unfold Lib.cut
    rw [oR x b s h]
    have hge := Lib.index_ge s [b]
    by_cases hm : Lib.index s [b] = -1
    · rw [hm]; simp
    · obtain ⟨j, hj⟩ : ∃ j : Nat, Lib.index s [b] = j := ⟨(Lib.index s [b]).toNat, by omega⟩
      have hb : (((j : Nat) : Int) == -1) = false := by rw [beq_eq_false_iff_ne]; omega
      rw [hj, hb]
      simp only [Bool.false_eq_true, if_false]
      rw [if_pos (by omega), if_pos (by omega), show ((j : Int) + 1).toNat = j + 1 by omega]
      simp only [List.take_succ_cons, Int.toNat_natCast]
      rw [show j + 1 + [b].length = (j + [b].length) + 1 by simp, List.drop_succ_cons]
theorem nz (b : UInt8) : ∀ s : Str, s = (yc b s).1 ++ cond (yc b s).2.2 (b :: (yc b s).2.1) []
 | [] => rfl
 | x :: s => by
  rw [yc]
  split
  · rename_i h; rw [h]; rfl
  · have := nz b s
    show x :: s = (x :: (yc b s).1) ++ _
    rw [List.cons_append, ← this]
theorem du (b : UInt8) : ∀ s : Str, b ∉ (yc b s).1
 | [] => by simp [yc]
 | x :: s => by
  rw [yc]
  split
  · simp
  · rename_i h
    have := du b s
    simp only [List.mem_cons, not_or]
    exact ⟨Ne.symm h, this⟩
theorem mz (b : UInt8) : ∀ s : Str, (yc b s).2.2 = false → (yc b s).2.1 = []
 | [], _ => rfl
 | x :: s, h => by
  rw [yc] at h ⊢
  split at h
  · simp at h
  · rename_i hx
    rw [if_neg hx]; exact mz b s h
theorem dw (b : UInt8) (t : Str) : ∀ s : Str, b ∉ s → yc b (s ++ b :: t) = (s, t, true)
 | [], _ => by simp [yc]
 | x :: s, h => by
  simp only [List.mem_cons, not_or] at h
  rw [List.cons_append, yc, if_neg (Ne.symm h.1), dw b t s h.2]
theorem dt (b : UInt8) (t : Str) : ∀ s : Str, yS b (s ++ b :: t) = yS b s ++ yS b t
 | [] => by rw [List.nil_append, u0]; rfl
 | x :: s => by
  have ih := dt b t s
  rw [List.cons_append]
  by_cases h : x = b
  · subst h; rw [u0, u0, ih]; rfl
  · cases hc : yS b s with
    | nil => exact absurd hc (rf b s)
    | cons p r =>
     rw [hc] at ih
     rw [wD b x s p r h hc, wD b x _ p (r ++ yS b t) h ih]; rfl
def rp : Str := [110, 111, 100, 101, 95, 109, 111, 100, 117, 108, 101, 115]
def ua (b : UInt8) : Bool := B2 (nb b) 97 122 || B2 (nb b) 48 57 || nb b == 46 || nb b == 95 || nb b == 45
def nc (s : Str) : Bool := ([64] : Str).isPrefixOf s
def xe (s : Str) : Str := match s with
 | [] => []
 | x :: r => if x = 64 then r else x :: r
def u6 (sc : Bool) : List Str → Bool
 | [] => true
 | p :: r => (!((p == []) || ((p == rp) && !sc) || !(p.all ua))) && u6 false r
def sI (s : Str) : Bool := u6 (nc s) (yS 47 (xe s)) && decide ((s.length : Int) ≤ 60)
def lD : List Str → Bool
 | [] => true
 | p :: r => (!(p == rp) && (p.all ua && !(p == []))) && lD r
def qq : List Str → Bool
 | [] => true
 | p :: r => (!(p == rp) && ((xe p).all ua && !(xe p == []))) && lD r
theorem sQ : ∀ r : List Str, lD r = u6 false r
 | [] => rfl
 | p :: r => by
  rw [lD, u6, sQ r]
  cases (p == []) <;> cases (p == rp) <;> cases (p.all ua) <;> rfl
theorem Yh (s : Str) : (qq (yS 47 s) && decide ((s.length : Int) ≤ 60)) = sI s := by
 unfold sI
 congr 1
 cases s with
 | nil => rfl
 | cons x t =>
  cases hc : yS 47 t with
  | nil => exact absurd hc (rf 47 t)
  | cons p r =>
   by_cases h64 : x = 64
   · subst h64
     rw [wD 47 64 t p r (by decide) hc]
     have h1 : nc (64 :: t) = true := by simp [nc, List.isPrefixOf]
     have h2 : xe (64 :: t) = t := by simp [xe]
     have h3 : xe (64 :: p) = p := by simp [xe]
     have h4 : (((64 : UInt8) :: p) == rp) = false := by simp [rp]
     rw [h1, h2, hc, qq, u6, h3, h4, sQ]
     cases (p == []) <;> cases (p == rp) <;> cases (p.all ua) <;> rfl
   · have h1 : nc (x :: t) = false := by simp [nc, List.isPrefixOf]; exact fun h => h64 h.symm
     have h2 : xe (x :: t) = x :: t := by simp [xe, h64]
     rw [h1, h2]
     by_cases h47 : x = 47
     · subst h47
       rw [u0, qq, u6, sQ]
       rfl
     · rw [wD 47 x t p r h47 hc, qq, u6, sQ]
       have h3 : xe (x :: p) = x :: p := by simp [xe, h64]
       rw [h3]
       cases ((x :: p) == []) <;> cases ((x :: p) == rp) <;> cases ((x :: p).all ua) <;> rfl
def qp (b : UInt8) : Bool := B2 (nb b) 33 126 && (!(nb b == 34) && (!(nb b == 39) && (!(nb b == 44) && !(nb b == 92))))
def tH (s : Str) : Bool := s.all qp && decide ((s.length : Int) ≤ 100)
end Go.Proofs.YtonbkdklidfmfaaGreatDoor
/- The number of a text, plain: both ways of reading it come to the same. Conditions: none. -/
namespace Go.Proofs.YtonbkdklidfmfaaGreatDoor
set_option linter.unusedSimpArgs false
set_option linter.unusedVariables false
def isD (c : UInt8) : Bool := decide (48 ≤ c.toNat) && decide (c.toNat ≤ 57)
def qk (a : Nat) (c : UInt8) : Nat := a * 10 + (c.toNat - 48)
def uG (acc : Nat) (l : List UInt8) : Nat := l.foldl qk acc
theorem mG (acc : Nat) : uG acc [] = acc := rfl
theorem pJ (acc : Nat) (c : UInt8) (l : List UInt8) : uG acc (c :: l) = uG (qk acc c) l := by
 unfold uG
 rw [List.foldl_cons]
theorem ke (c : UInt8) (l : List UInt8) (acc : Nat) : uG acc (l ++ [c]) = qk (uG acc l) c := by
 unfold uG
 rw [List.foldl_append, List.foldl_cons, List.foldl_nil]
theorem pw (c : UInt8) : isD c = true ↔ 48 ≤ c.toNat ∧ c.toNat ≤ 57 := by simp [isD]
theorem a8 (acc : Nat) (c : UInt8) (h : isD c = true) : qk acc c + 1 ≤ (acc + 1) * 10 := by
 have := (pw c).1 h
 unfold qk
 omega
theorem nY (n m : Nat) : m * 10 ^ (n + 1) = m * 10 * 10 ^ n := by rw [Nat.pow_succ, Nat.mul_comm (10 ^ n) 10, Nat.mul_assoc]
theorem nn : ∀ (l : List UInt8) (acc : Nat), l.all isD = true → uG acc l < (acc + 1) * 10 ^ l.length
 | [], acc, _ => by rw [mG]; simp
 | c :: l, acc, h => by
  rw [List.all_cons, Bool.and_eq_true] at h
  have ih := nn l (qk acc c) h.2
  rw [pJ, List.length_cons, nY]
  exact Nat.lt_of_lt_of_le ih (Nat.mul_le_mul_right _ (a8 acc c h.1))
theorem ji {d : Nat} (h : d < 10) : (UInt8.ofNat (48 + d)).toNat = 48 + d := by
 simp [UInt8.toNat_ofNat']; omega
theorem uk (u : Nat) : (Lib.decDigits u).all isD = true ∧ uG 0 (Lib.decDigits u) = u ∧ Lib.decDigits u ≠ [] := by
 induction u using Nat.strongRecOn with
 | _ u ih =>
  rw [Lib.decDigits]
  split
  · rename_i h
    have := ji h
    refine ⟨?_, ?_, by simp⟩
    · rw [List.all_cons, List.all_nil, Bool.and_true, pw, this]; omega
    · rw [pJ, mG, qk, this]; omega
  · rename_i h
    obtain ⟨h1, h2, h3⟩ := ih (u / 10) (by omega)
    have := ji (d := u % 10) (by omega)
    refine ⟨?_, ?_, by simp⟩
    · rw [List.all_append, h1, List.all_cons, List.all_nil, Bool.and_true, Bool.true_and, pw, this]; omega
    · rw [ke, h2, qk, this]; omega
theorem qx : ∀ (l : List UInt8) (acc : Nat), l.all isD = true → (acc + 1) * 10 ^ l.length ≤ 1000000000000000000 → Lib.parseUint10 acc l = .ok (uG acc l)
 | [], acc, _, _ => rfl
 | c :: l, acc, h, hb => by
  rw [List.all_cons, Bool.and_eq_true] at h
  have hp : 0 < 10 ^ l.length := Nat.pos_of_ne_zero (by intro h; simp at h)
  rw [List.length_cons, nY] at hb
  have h10 : (acc + 1) * 10 ≤ 1000000000000000000 := Nat.le_trans (Nat.le_mul_of_pos_right _ hp) hb
  have hc := (pw c).1 h.1
  have ih := qx l (qk acc c) h.2 (Nat.le_trans (Nat.mul_le_mul_right _ (a8 acc c h.1)) hb)
  rw [Lib.parseUint10, if_pos hc, if_neg (by omega), if_neg (by omega), pJ, ← ih]
  rfl
theorem oK : ∀ (k u : Nat), 1 ≤ k → u < 10 ^ k → Lib.nDigits u ≤ k
 | 0, u, h, _ => by omega
 | k + 1, u, _, h => by
  rw [Lib.nDigits]
  split
  · omega
  · have h10 : u / 10 < 10 ^ k := by rw [Nat.pow_succ] at h; omega
    have hk : 1 ≤ k := by
     rcases Nat.eq_zero_or_pos k with rfl | h
     · simp at h10; omega
     · exact h
    have := oK k (u / 10) hk h10
    omega
theorem s7 {u : Nat} (h : u ≤ 999999999) : (Lib.decDigits u).length ≤ 9 := by
 rw [Lib.decDigits_length]
 exact oK 9 u (by omega) (by omega)
theorem gQ {u : Nat} (h : u ≤ 999999999) : Lib.atoiAll (Lib.decDigits u) = .ok (u : Int) := by
 obtain ⟨h1, h2, h3⟩ := uk u
 have hl := s7 h
 generalize Lib.decDigits u = l at *
 cases l with
 | nil => exact absurd rfl h3
 | cons c r =>
  have hc : isD c = true := by simp only [List.all_cons, Bool.and_eq_true] at h1; exact h1.1
  simp only [isD, Bool.and_eq_true, decide_eq_true_eq] at hc
  have hp : Lib.parseMag (c :: r) = .ok u := by
   unfold Lib.parseMag
   have : (10 : Nat) ^ (c :: r).length ≤ 10 ^ 9 := Nat.pow_le_pow_right (by omega) hl
   have e9 : (10 : Nat) ^ 9 = 1000000000 := by decide
   rw [if_neg (by simp), qx _ 0 h1 (by omega), h2]
  unfold Lib.atoiAll
  simp only
  rw [if_neg (by omega), hp]
  simp only
  rw [if_neg (by omega), if_neg (by omega), if_neg (by omega)]
def zO (s : List UInt8) : Int :=
 match Lib.atoiAll s with
 | .ok v => cond ((decide (0 ≤ v) && decide (v ≤ 999999999)) && (Lib.itoa v == s)) v (-1)
 | _ => -1
def r7 (s : List UInt8) : Int := cond ((s.all isD && decide (s.length ≤ 9)) && (!(s == []) && (Lib.itoa (uG 0 s : Nat) == s))) (uG 0 s : Nat) (-1)
theorem ky {u : Nat} (h : u ≤ 999999999) : zO (Lib.decDigits u) = u ∧ r7 (Lib.decDigits u) = u := by
 obtain ⟨h1, h2, h3⟩ := uk u
 have hl := s7 h
 refine ⟨?_, ?_⟩
 · unfold zO
   rw [gQ h]
   simp only
   rw [Lib.itoa_nonneg]
   have e1 : decide ((0 : Int) ≤ (u : Int)) = true := by simp
   have e2 : decide ((u : Int) ≤ 999999999) = true := by simp; omega
   rw [e1, e2]; simp
 · unfold r7
   rw [h1, h2, Lib.itoa_nonneg]
   have e1 : decide ((Lib.decDigits u).length ≤ 9) = true := by simpa using hl
   have e2 : (Lib.decDigits u == []) = false := by simpa using h3
   rw [e1, e2]; simp
theorem Ya {s : List UInt8} (h : ∀ u, u ≤ 999999999 → s ≠ Lib.decDigits u) : zO s = -1 ∧ r7 s = -1 := by
 refine ⟨?_, ?_⟩
 · unfold zO
   split
   · rename_i v hv
     cases hc : ((decide (0 ≤ v) && decide (v ≤ 999999999)) && (Lib.itoa v == s)) with
     | false => rfl
     | true =>
      simp only [Bool.and_eq_true, decide_eq_true_eq] at hc
      obtain ⟨⟨c1, c2⟩, c3⟩ := hc
      obtain ⟨u, rfl⟩ : ∃ u : Nat, v = u := ⟨v.toNat, by omega⟩
      rw [Lib.itoa_nonneg] at c3
      exact absurd (eq_of_beq c3).symm (h u (by omega))
   · rfl
 · unfold r7
   cases hc : ((s.all isD && decide (s.length ≤ 9)) && (!(s == []) && (Lib.itoa (uG 0 s : Nat) == s))) with
   | false => rfl
   | true =>
    simp only [Bool.and_eq_true, decide_eq_true_eq] at hc
    obtain ⟨⟨c1, c2⟩, c3, c4⟩ := hc
    rw [Lib.itoa_nonneg] at c4
    have hv := nn s 0 c1
    have : (10 : Nat) ^ s.length ≤ 10 ^ 9 := Nat.pow_le_pow_right (by omega) c2
    have e9 : (10 : Nat) ^ 9 = 1000000000 := by decide
    exact absurd (eq_of_beq c4).symm (h _ (by omega))
theorem Y1 (s : List UInt8) : r7 s = zO s := by
 by_cases h : ∃ u, u ≤ 999999999 ∧ s = Lib.decDigits u
 · obtain ⟨u, hu, rfl⟩ := h
   obtain ⟨h1, h2⟩ := ky hu
   rw [h1, h2]
 · obtain ⟨h1, h2⟩ := Ya (s := s) fun u hu he => h ⟨u, hu, he⟩
   rw [h1, h2]
end Go.Proofs.YtonbkdklidfmfaaGreatDoor
/- Versions, packs, graphs, plain. Conditions: none. -/
namespace Go.Proofs.YtonbkdklidfmfaaGreatDoor
open E
set_option linter.unusedVariables false
set_option linter.unusedSimpArgs false
set_option maxRecDepth 100000
theorem sA (a b : UInt8) (x y : Str) : Op.bytesLess (a :: x) (b :: y) = (decide (a < b) || (a == b && Op.bytesLess x y)) := by
 rw [Op.bytesLess]
theorem pq : ∀ x y : Str, (Op.bytesLess x y || x == y) = !(Op.bytesLess y x)
 | [], [] => rfl
 | [], b :: y => by simp [Op.bytesLess]
 | a :: x, [] => by simp [Op.bytesLess]
 | a :: x, b :: y => by
  have ih := pq x y
  rw [sA, sA]
  by_cases h1 : a < b
  · have h2 : ¬ b < a := by simp only [UInt8.lt_iff_toNat_lt] at h1 ⊢; omega
    have h3 : (b == a) = false := by
     rw [beq_eq_false_iff_ne]; intro h; subst h; simp only [UInt8.lt_iff_toNat_lt] at h1; omega
    simp [h1, h2, h3]
  · by_cases h2 : b < a
    · have h3 : (a == b) = false := by
       rw [beq_eq_false_iff_ne]; intro h; subst h; simp only [UInt8.lt_iff_toNat_lt] at h2; omega
      have h4 : ((a :: x) == (b :: y)) = false := by
       rw [beq_eq_false_iff_ne]; intro h; cases h; simp at h3
      simp [h1, h2, h3, h4]
    · have h3 : a = b := by
       apply UInt8.toNat_inj.1; simp only [UInt8.lt_iff_toNat_lt] at h1 h2; omega
      subst h3
      have e : ((a :: x) == (a :: y)) = (x == y) := by
       rw [Bool.eq_iff_iff]; simp
      simp only [h1, decide_false, Bool.false_or, beq_self_eq_true, Bool.true_and, e, ih]
theorem vc (b : UInt8) : ∀ s : Str, yl (yS b s) + (yS b s).length ≤ s.length + 1
 | [] => by simp [yS, yl]
 | x :: s => by
  have ih := vc b s
  by_cases h : x = b
  · subst h; rw [u0]; simp only [yl, List.length_cons, List.length_nil]; omega
  · cases hc : yS b s with
    | nil => exact absurd hc (rf b s)
    | cons p r =>
     rw [hc] at ih
     rw [wD b x s p r h hc]
     simp only [yl, List.length_cons] at ih ⊢; omega
theorem pd (b : UInt8) (s : Str) : (yc b s).1.length ≤ s.length ∧ (yc b s).2.1.length ≤ s.length := by
 have h := nz b s
 have h2 := congrArg List.length h
 rw [List.length_append] at h2
 cases hc : (yc b s).2.2 with
 | true => rw [hc] at h2; simp only [cond_true, List.length_cons] at h2; omega
 | false =>
  have := mz b s hc
  rw [this]; simp only [List.length_nil]; omega
theorem u5 : ∀ {ks : List Str} {s : Str}, s ∈ ks → s.length ≤ yl ks
 | k :: ks, s, h => by
  simp only [yl]
  rcases List.mem_cons.1 h with rfl | h
  · omega
  · have := u5 h; omega
theorem lg : ∀ a b : List Str, yl (a ++ b) = yl a + yl b
 | [], b => by simp [yl]
 | x :: a, b => by simp only [List.cons_append, yl, lg a b]; omega
theorem kP : ∀ l : List Str, Lib.lens l = yl l
 | [] => rfl
 | x :: l => by
  have := kP l
  simp only [yl, ← this]; simp [Lib.lens]
theorem join_le (sep : Str) : ∀ l : List Str, (Lib.join l sep).length ≤ yl l + sep.length * l.length
 | [] => by simp [Lib.join_nil]
 | x :: r => by rw [Lib.join_length, kP]; simp only [List.length_cons, Nat.mul_add, Nat.mul_one]; omega
theorem mm (sep : Str) (x : Str) (l : List Str) (y : Str) : Lib.join (x :: l ++ [y]) sep = Lib.join (x :: l) sep ++ (sep ++ y) := by
 rw [List.cons_append, Lib.join_cons, Lib.join_cons]; simp [Lib.joinTail]
structure Ver where
 maj : Int
 min : Int
 pat : Int
 pre : List Str
def Ver.enc (v : Ver) : List T := [.int .i64 v.maj, .int .i64 v.min, .int .i64 v.pat, .list 1 (strs v.pre)]
def Ver.zero : Ver := ⟨0, 0, 0, []⟩
def preB (b : UInt8) : Bool := (B2 (nb b) 97 122 || B2 (nb b) 48 57) || (B2 (nb b) 65 90 || nb b == 45)
def isNum (s : Str) : Bool := !(s == []) && s.all isD
def tU (p : Str) : Bool := B2 (p.length : Int) 1 20 && (p.all preB && (!(isNum p) || decide (0 ≤ zO p)))
def n9 (n : Int) : Bool := B2 n 0 999999999
def yR (v : Ver) : Bool := (n9 v.maj && (n9 v.min && n9 v.pat)) && (v.pre.all tU && decide ((v.pre.length : Int) ≤ 5))
def tZ (v : Ver) : Str := (((Lib.itoa v.maj ++ [46]) ++ Lib.itoa v.min) ++ [46]) ++ Lib.itoa v.pat
def wU (c : Str) (pre : List Str) : Str := cond (pre == []) c (c ++ ([45] ++ Lib.join pre [46]))
def yd (v : Ver) : Str := cond (yR v) (wU (tZ v) v.pre) []
def vj (s : Str) : Option Ver :=
 match yS 46 (yc 45 s).1 with
 | [a, b, c] => some ⟨zO a, zO b, zO c, cond (yc 45 s).2.2 (yS 46 (yc 45 s).2.1) []⟩
 | _ => none
def zT (s : Str) : Ver × Bool :=
 match vj s with
 | some v => cond (yd v == s) (v, true) (Ver.zero, false)
 | none => (Ver.zero, false)
theorem ey {s : Str} {v : Ver} (h : vj s = some v) : s ≠ [] := by
 intro e; subst e; simp [vj, yc, yS] at h
theorem wJ {s : Str} (h : (zT s).2 = true) : vj s = some (zT s).1 ∧ yd (zT s).1 = s ∧ yR (zT s).1 = true ∧ s ≠ [] := by
 unfold zT at h ⊢
 cases hm : vj s with
 | none => rw [hm] at h; cases h
 | some v =>
  rw [hm] at h
  simp only at h ⊢
  have hs := ey hm
  cases hc : (yd v == s) with
  | false => rw [hc] at h; cases h
  | true =>
   have he := eq_of_beq hc
   simp only [cond_true]
   refine ⟨trivial, he, ?_, hs⟩
   cases hv : yR v with
   | true => rfl
   | false => unfold yd at he; rw [hv] at he; exact absurd he.symm hs
theorem lu (n : Int) : n9 n = true ↔ 0 ≤ n ∧ n ≤ 999999999 := by simp [n9]
theorem sL {v : Ver} (h : yR v = true) : (0 ≤ v.maj ∧ v.maj ≤ 999999999) ∧ (0 ≤ v.min ∧ v.min ≤ 999999999) ∧ (0 ≤ v.pat ∧ v.pat ≤ 999999999) ∧ v.pre.all tU = true ∧ v.pre.length ≤ 5 := by
 unfold yR at h
 simp only [Bool.and_eq_true, lu, decide_eq_true_eq] at h
 obtain ⟨⟨h1, h2, h3⟩, h4, h5⟩ := h
 exact ⟨h1, h2, h3, h4, by omega⟩
theorem sb (s : Str) : -1 ≤ zO s ∧ zO s ≤ 999999999 := by
 unfold zO
 split
 · rename_i v _
   cases hc : ((decide (0 ≤ v) && decide (v ≤ 999999999)) && (Lib.itoa v == s)) with
   | false => simp
   | true =>
    simp only [Bool.and_eq_true, decide_eq_true_eq] at hc
    simp only [cond_true]; omega
 · simp
def rM (v : Ver) : Ver := ⟨v.maj, v.min, v.pat, v.pre ++ [[48]]⟩
theorem ZY (c : Str) (x : Str) (l : List Str) : wU c ((x :: l) ++ [[48]]) = wU c (x :: l) ++ [46, 48] := by
 unfold wU
 rw [mm]
 simp
theorem beq_nil_cons {α : Type} [BEq α] (x : α) (l : List α) : ((x :: l) == []) = false := rfl
theorem Yb {s : Str} (h : (zT s).2 = true) (hp : (zT s).1.pre ≠ []) :
 zT (s ++ [46, 48]) = cond (yR (rM (zT s).1)) (rM (zT s).1, true) (Ver.zero, false) ∧ yd (rM (zT s).1) = cond (yR (rM (zT s).1)) (s ++ [46, 48]) [] := by
 obtain ⟨hm, ht, ho, hs⟩ := wJ h
 generalize (zT s).1 = v at *
 have hmk : vj (s ++ [46, 48]) = some (rM v) := by
  unfold vj at hm ⊢
  have he := nz 45 s
  have hn := du 45 s
  cases hc : (yc 45 s).2.2 with
  | false =>
   rw [hc] at hm
   split at hm
   · cases hm; exact absurd rfl hp
   · cases hm
  | true =>
   rw [hc] at hm he
   simp only [cond_true] at he
   have h2 : yc 45 (s ++ [46, 48]) = ((yc 45 s).1, (yc 45 s).2.1 ++ [46, 48], true) := by
    conv => lhs; rw [he]
    rw [List.append_assoc, List.cons_append]
    exact dw 45 _ _ hn
   rw [h2]
   simp only
   split at hm
   · cases hm
     simp only [cond_true]
     rw [show (yc 45 s).2.1 ++ [46, 48] = (yc 45 s).2.1 ++ 46 :: [48] from rfl, dt]
     rfl
   · cases hm
 have htx : yd (rM v) = cond (yR (rM v)) (s ++ [46, 48]) [] := by
  have ht' := ht
  unfold yd at ht' ⊢
  rw [ho] at ht'
  simp only [cond_true] at ht'
  congr 1
  rw [← ht']
  cases hv : v.pre with
  | nil => exact absurd hv hp
  | cons x l =>
   show wU (tZ v) (v.pre ++ [[48]]) = _
   rw [hv]
   exact ZY _ x l
 refine ⟨?_, htx⟩
 unfold zT
 rw [hmk]
 simp only
 rw [htx]
 cases hk : yR (rM v) with
 | true => simp
 | false =>
  simp only [cond_false]
  have : (([] : Str) == s ++ [46, 48]) = false := by rw [beq_eq_false_iff_ne]; intro e; have := congrArg List.length e; simp at this
  rw [this]; rfl
def xX (a b c : Int) : Str := yd ⟨a, b, c, [[48]]⟩
def lE (v : Ver) : Str := cond (v.pre == []) (xX v.maj v.min (v.pat + 1)) (yd (rM v))
def vB (s : Str) : Option (Str × Str) := cond ((zT s).2 && !(lE (zT s).1 == [])) (some (s, lE (zT s).1)) none
def upV (v : Ver) (part : Int) : Ver := cond (part == 0) ⟨v.maj + 1, 0, 0, []⟩ (cond (part == 1) ⟨v.maj, v.min + 1, 0, []⟩ ⟨v.maj, v.min, cond (v.pre == []) (v.pat + 1) v.pat, []⟩)
def vh (v : Ver) (part : Int) : Ver := cond (!(yR v) || !(B2 part 0 2)) v (cond (yR (upV v part)) (upV v part) v)
def vf (a b : Int) : Int := cond (decide (a < b)) (-1) (cond (decide (a > b)) 1 0)
def dU (a b : Str) : Int := cond (Op.bytesLess a b) (-1) (cond (!(Op.bytesLess a b || a == b)) 1 0)
def td (a b : Str) : Int := cond (decide (zO a ≥ 0) && decide (zO b ≥ 0)) (vf (zO a) (zO b)) (cond (decide (zO a ≥ 0)) (-1) (cond (decide (zO b ≥ 0)) 1 (dU a b)))
def rn : List Str → List Str → Option Int
 | a :: l, b :: m => cond (td a b == 0) (rn l m) (some (td a b))
 | _, _ => none
def vR (a b : List Str) : Int := (rn a b).getD (vf (a.length : Int) (b.length : Int))
def dT (a b : Ver) : Int :=
 cond (vf a.maj b.maj == 0) (cond (vf a.min b.min == 0) (cond (vf a.pat b.pat == 0)
  (cond (a.pre == [] || b.pre == []) (vf (b.pre.length : Int) (a.pre.length : Int)) (vR a.pre b.pre))
  (vf a.pat b.pat)) (vf a.min b.min)) (vf a.maj b.maj)
theorem uO (a b : Int) : (vf a b == 0) = (a == b) := by
 unfold vf
 by_cases h1 : a < b
 · simp [h1]; omega
 · by_cases h2 : a > b
   · simp [h1, h2]; omega
   · simp [h1, h2]; omega
theorem ta (a b c a' b' c' : Int) : (dT ⟨a, b, c, []⟩ ⟨a', b', c', []⟩ == 0) = (a == a' && (b == b' && c == c')) := by
 unfold dT
 simp only [uO]
 cases h1 : (a == a') with
 | false => simp only [cond_false]; rw [uO, h1]; rfl
 | true =>
  cases h2 : (b == b') with
  | false => simp only [cond_true, cond_false]; rw [uO, h2]; rfl
  | true =>
   cases h3 : (c == c') with
   | false => simp only [cond_true, cond_false]; rw [uO, h3]; rfl
   | true => rfl
def xn (v : Ver) : Ver := ⟨v.maj, v.min, v.pat, []⟩
def lA (v : Ver) (part : Int) : Str × Bool := cond (dT (vh (xn v) part) (xn v) == 0) ([], false) (yd ⟨(vh (xn v) part).maj, (vh (xn v) part).min, (vh (xn v) part).pat, [[48]]⟩, true)
theorem Tx : tU [48] = true := by
 unfold tU
 have h1 : ([48] : Str).all preB = true := by decide
 have h2 : decide (0 ≤ zO [48]) = true := by
  have := (ky (u := 0) (by omega)).1
  rw [show Lib.decDigits 0 = [48] by rw [Lib.decDigits_one (by omega)]; rfl] at this
  rw [this]; rfl
 rw [h1, h2]; simp
theorem dW (v : Ver) : yR (xn v) = (n9 v.maj && (n9 v.min && n9 v.pat)) := by simp [yR, xn]
theorem tk (a b c : Int) : yR ⟨a, b, c, [[48]]⟩ = (n9 a && (n9 b && n9 c)) := by simp [yR, Tx]
theorem rS (a b c : Int) : (xX a b c == []) = !(n9 a && (n9 b && n9 c)) := by
 unfold xX yd
 rw [tk]
 cases (n9 a && (n9 b && n9 c)) with
 | false => rfl
 | true => simp [wU, tZ]
theorem WQ {v : Ver} (ho : yR v = true) (part : Int) (hp : part = 0 ∨ part = 1 ∨ part = 2) :
 lA v part = (let h := xX (cond (part == 0) (v.maj + 1) v.maj) (cond (part == 0) 0 (cond (part == 1) (v.min + 1) v.min)) (cond (part == 2) (v.pat + 1) 0); (h, !(h == []))) := by
 obtain ⟨h1, h2, h3, _, _⟩ := sL ho
 have hb : yR (xn v) = true := by
  rw [dW]; simp only [Bool.and_eq_true, lu]; exact ⟨h1, h2, h3⟩
 have n1 : n9 v.maj = true := (lu _).2 h1
 have n2 : n9 v.min = true := (lu _).2 h2
 have n3 : n9 v.pat = true := (lu _).2 h3
 have n0 : n9 0 = true := by decide
 unfold lA vh
 rw [hb]
 rcases hp with rfl | rfl | rfl
 · have e : upV (xn v) 0 = ⟨v.maj + 1, 0, 0, []⟩ := rfl
   rw [e]
   simp only [Bool.not_true, Bool.false_or, show B2 0 0 2 = true from rfl, cond_false]
   rw [show yR ⟨v.maj + 1, 0, 0, []⟩ = n9 (v.maj + 1) by simp [yR, n0]]
   simp only [show ((0 : Int) == 0) = true from rfl, cond_true, show ((0 : Int) == 2) = false from rfl, cond_false]
   rw [rS, n0]
   cases hn : n9 (v.maj + 1) with
   | true =>
    have : (v.maj + 1 == v.maj) = false := by rw [beq_eq_false_iff_ne]; omega
    simp only [cond_true, xn, ta, this]
    simp [xX]
   | false =>
    simp [ta, xX, yd, tk, hn, xn]
 · have e : upV (xn v) 1 = ⟨v.maj, v.min + 1, 0, []⟩ := rfl
   rw [e]
   simp only [Bool.not_true, Bool.false_or, show B2 1 0 2 = true from rfl, cond_false]
   rw [show yR ⟨v.maj, v.min + 1, 0, []⟩ = n9 (v.min + 1) by simp [yR, n0, n1]]
   simp only [show ((1 : Int) == 0) = false from rfl, show ((1 : Int) == 1) = true from rfl, cond_true, show ((1 : Int) == 2) = false from rfl, cond_false]
   rw [rS, n0, n1]
   cases hn : n9 (v.min + 1) with
   | true =>
    have : (v.min + 1 == v.min) = false := by rw [beq_eq_false_iff_ne]; omega
    simp only [cond_true, xn, ta, this]
    simp [xX]
   | false =>
    simp [ta, xX, yd, tk, hn, xn]
 · have e : upV (xn v) 2 = ⟨v.maj, v.min, v.pat + 1, []⟩ := rfl
   rw [e]
   simp only [Bool.not_true, Bool.false_or, show B2 2 0 2 = true from rfl, cond_false]
   rw [show yR ⟨v.maj, v.min, v.pat + 1, []⟩ = n9 (v.pat + 1) by simp [yR, n1, n2]]
   simp only [show ((2 : Int) == 0) = false from rfl, show ((2 : Int) == 1) = false from rfl, cond_true, show ((2 : Int) == 2) = true from rfl, cond_false]
   rw [rS, n1, n2]
   cases hn : n9 (v.pat + 1) with
   | true =>
    have : (v.pat + 1 == v.pat) = false := by rw [beq_eq_false_iff_ne]; omega
    simp only [cond_true, xn, ta, this]
    simp [xX]
   | false =>
    simp [ta, xX, yd, tk, hn, xn]
end Go.Proofs.YtonbkdklidfmfaaGreatDoor
/- Numbers' texts, by both. Conditions: those of each lemma. -/
namespace Go.Proofs.YtonbkdklidfmfaaGreatDoor
open E
set_option linter.unusedSimpArgs false
set_option linter.unusedVariables false
set_option maxRecDepth 100000
theorem mj : ∀ (k u : Nat), 1 ≤ k → u < 10 ^ k → Lib.nDigits u ≤ k
 | 0, u, h, _ => by omega
 | k + 1, u, _, h => by
  rw [Lib.nDigits]
  split
  · omega
  · have h10 : u / 10 < 10 ^ k := by rw [Nat.pow_succ] at h; omega
    have hk : 1 ≤ k := by
     rcases Nat.eq_zero_or_pos k with rfl | h
     · simp at h10; omega
     · exact h
    have := mj k (u / 10) hk h10
    omega
theorem wM (n : Int) (h0 : 0 ≤ n) (h1 : n ≤ 999999999) : (Lib.itoa n).length ≤ 9 := by
 obtain ⟨u, rfl⟩ : ∃ u : Nat, n = u := ⟨n.toNat, by omega⟩
 rw [Lib.itoa_nonneg, Lib.decDigits_length]
 exact mj 9 u (by omega) (by omega)
theorem gi (n : Int) (h0 : 0 ≤ n) (h1 : n ≤ 999999999) : zo (EV Tryz.prog pol) 203 [.t (.int .i64 n)] = some (.t (.str (Lib.itoa n))) := by
 have h := Qd n (by omega) (by omega)
 apply zw
 refine zy rfl Tryz.func203 rfl (by kernel_rfl) ?_
 unfold Tryz.f203
 simp only [↓GO, ↓DRW, GA, GX, ren, zm, za, refs, z8, cst, zq, isC, bin, una, z6, zd, blt, asArg, zg, zc, zf, z1, E.mkS, unN, ze, zn, zb, GS, simprocAttr, h]
def Zq (m : Nat) : Str := if m = 0 then [] else Lib.decDigits m
theorem Yo (m : Nat) (h : m ≠ 0) : Zq m = Zq (m / 10) ++ [UInt8.ofNat (48 + m % 10)] := by
 unfold Zq
 rw [if_neg h]
 by_cases h10 : m < 10
 · rw [if_pos (by omega), Lib.decDigits_one h10, show m % 10 = m by omega]; rfl
 · rw [if_neg (by omega)]
   conv => lhs; rw [Lib.decDigits]
   rw [dif_neg h10]
theorem Ws (d : Nat) (h : d < 10) : (List.drop d [48, 49, 50, 51, 52, 53, 54, 55, 56, 57]).take (d + 1 - d) = [UInt8.ofNat (48 + d)] := by
 have : d = 0 ∨ d = 1 ∨ d = 2 ∨ d = 3 ∨ d = 4 ∨ d = 5 ∨ d = 6 ∨ d = 7 ∨ d = 8 ∨ d = 9 := by omega
 rcases this with rfl | rfl | rfl | rfl | rfl | rfl | rfl | rfl | rfl | rfl <;> rfl
theorem Rc (n : Int) : ∀ (N m : Nat) (out : Str), m ≤ N → m ≤ 999999999 → out.length + m ≤ 1000000000 →
 EV Tryz.prog pol (.loop 172 124 0 [.t (.int .i64 n), .t (.str out), .t (.int .i64 (m : Int))] [])
 = some (.loop (.exit 0) [.t (.int .i64 n), .t (.str (Zq m ++ out))] [])
 | N, 0, out, h, h1, h2 => by
  refine zj Tryz.func172 rfl rfl ?_
  simp only [↓GO, ↓DRW, GA, GX, ren, zm, za, refs, z8, cst, zq, isC, bin, una, z6, zd, blt, asArg, zg, zc, zf, z1, E.mkS, unN, ze, zn, zb, GS, simprocAttr, Int.natCast_zero, bne_self_eq_false, Zq, if_true]
 | 0, m + 1, out, h, h1, h2 => by omega
 | N + 1, m + 1, out, h, h1, h2 => by
  generalize hm : m + 1 = x at *
  have c : (((x : Nat) : Int) == 0) = false := by simp; omega
  have e1 : ((x : Nat) : Int).tmod 10 = ((x % 10 : Nat) : Int) := (Int.ofNat_tmod x 10).symm
  have e2 : ((x : Nat) : Int).tdiv 10 = ((x / 10 : Nat) : Int) := (Int.ofNat_tdiv x 10).symm
  have hd : x % 10 < 10 := Nat.mod_lt _ (by omega)
  have c2 : decide (((x % 10 : Nat) : Int) < 0) = false := by simp only [decide_eq_false_iff_not]; omega
  have hdig := Ws (x % 10) hd
  have IH := Rc n N (x / 10) (UInt8.ofNat (48 + x % 10) :: out) (by omega) (by omega) (by simp only [List.length_cons]; omega)
  rw [Yo x (by omega), List.append_assoc]
  rw [show [UInt8.ofNat (48 + x % 10)] ++ out = UInt8.ofNat (48 + x % 10) :: out from rfl]
  generalize UInt8.ofNat (48 + x % 10) = bd at *
  have w1 : IntKind.i64.wrap (((x % 10 : Nat) : Int) + 1) = ((x % 10 + 1 : Nat) : Int) := by rw [zk (by omega)]; omega
  have w2 : IntKind.i64.wrap ((x / 10 : Nat) : Int) = ((x / 10 : Nat) : Int) := zk (by omega)
  generalize x % 10 = xd at *
  generalize x / 10 = xq at *
  refine zj Tryz.func172 rfl rfl ?_
  simp (disch := ((try simp only [LL]); omega)) only [↓GO, ↓DRW, GA, GX, ren, zm, za, refs, z8, cst, zq, isC, bin, una, z6, zd, blt, asArg, zg, zc, zf, z1, E.mkS, unN, ze, zn, zb, GS, simprocAttr, bne, c, e1, e2, c2, w1, w2, hdig, ya, IH]
theorem gg (n : Int) (h0 : 0 ≤ n) (h1 : n ≤ 999999999) : zo (EV Tryz.prog pol) 172 [.t (.int .i64 n)] = some (.t (.str (Lib.itoa n))) := by
 obtain ⟨u, rfl⟩ : ∃ u : Nat, n = u := ⟨n.toNat, by omega⟩
 have IH := Rc u u u [] (Nat.le_refl _) (by omega) (by simp; omega)
 rw [List.append_nil] at IH
 rw [Lib.itoa_nonneg]
 have c2 : decide ((u : Int) < 0) = false := by simp only [decide_eq_false_iff_not]; omega
 apply zw
 refine zy rfl Tryz.func172 rfl (by kernel_rfl) ?_
 unfold Tryz.f172
 by_cases hu : u = 0
 · subst hu
   rw [show Lib.decDigits 0 = [48] by rw [Lib.decDigits_one (by omega)]; rfl]
   simp only [↓GO, ↓DRW, GA, GX, ren, zm, za, refs, z8, cst, zq, isC, bin, una, z6, zd, blt, asArg, zg, zc, zf, z1, E.mkS, unN, ze, zn, zb, GS, simprocAttr, Int.natCast_zero]
 · have c : ((u : Int) == 0) = false := by simp; omega
   rw [show Lib.decDigits u = Zq u by simp [Zq, hu]]
   simp only [↓GO, ↓DRW, GA, GX, ren, zm, za, refs, z8, cst, zq, isC, bin, una, z6, zd, blt, asArg, zg, zc, zf, z1, E.mkS, unN, ze, zn, zb, GS, simprocAttr, c, IH, c2]
end Go.Proofs.YtonbkdklidfmfaaGreatDoor
/- The number of a text, by both. Conditions: those of each lemma. -/
namespace Go.Proofs.YtonbkdklidfmfaaGreatDoor
open E
set_option linter.unusedSimpArgs false
set_option linter.unusedVariables false
set_option maxRecDepth 100000
theorem bK (c : UInt8) : B2 (c.toNat : Int) 48 57 = isD c := by
 unfold B2 isD
 congr 1 <;> rw [decide_eq_decide] <;> omega
theorem ZT (s : Str) (hl : s.length ≤ 281474976710656) : zo (EV Tryz.prog pol) 186 [.t (.str s)] = some (.t (.int .i64 (zO s))) := by
 have hat := Qj s hl
 apply zw
 refine zy rfl Tryz.func186 rfl (by kernel_rfl) ?_
 unfold Tryz.f186
 unfold zO
 cases ha : Lib.atoiAll s with
 | range => rw [ha] at hat; simp only at hat ⊢; simp (disch := ((try simp only [LL]); omega)) only [↓GO, ↓DRW, GA, GX, ren, zm, za, refs, z8, cst, zq, isC, bin, una, z6, zd, blt, asArg, zg, zc, zf, z1, E.mkS, unN, ze, zn, zb, GS, simprocAttr, hat]
 | ok v =>
  rw [ha] at hat
  simp only at hat ⊢
  have hw := sE v 0 999999999
  rw [show B2 v 0 999999999 = (decide (0 ≤ v) && decide (v ≤ 999999999)) from rfl] at hw
  cases hb : (decide (0 ≤ v) && decide (v ≤ 999999999)) with
  | false => rw [hb] at hw; simp (disch := ((try simp only [LL]); omega)) only [↓GO, ↓DRW, GA, GX, ren, zm, za, refs, z8, cst, zq, isC, bin, una, z6, zd, blt, asArg, zg, zc, zf, z1, E.mkS, unN, ze, zn, zb, GS, simprocAttr, hat, hw]
  | true =>
   rw [hb] at hw
   simp only [Bool.and_eq_true, decide_eq_true_eq] at hb
   have hd := gi v hb.1 hb.2
   cases he : (Lib.itoa v == s) <;> simp (disch := ((try simp only [LL]); omega)) only [↓GO, ↓DRW, GA, GX, ren, zm, za, refs, z8, cst, zq, isC, bin, una, z6, zd, blt, asArg, zg, zc, zf, z1, E.mkS, unN, ze, zn, zb, GS, simprocAttr, bne, hat, hw, hd, he]
 | _ => rw [ha] at hat; simp only at hat ⊢; simp (disch := ((try simp only [LL]); omega)) only [↓GO, ↓DRW, GA, GX, ren, zm, za, refs, z8, cst, zq, isC, bin, una, z6, zd, blt, asArg, zg, zc, zf, z1, E.mkS, unN, ze, zn, zb, GS, simprocAttr, hat]
theorem R6 (s : Str) (hl : s.length ≤ 9) : ∀ (rest pre : Str), s = pre ++ rest → pre.all isD = true →
 ∃ m : V, EV Tryz.prog pol (.loop 195 58 0 [.t (.str s), .t (.int .i64 (uG 0 pre : Nat)), .t (.int .i64 (pre.length : Int))] [])
 = some (cond (rest.all isD) (.loop (.exit 0) [.t (.str s), .bad, .t (.int .i64 (uG 0 s : Nat))] []) (.loop .ret [.t (.str s), .t (.int .i64 (-1)), m] []))
 | [], pre, hs, hd => by
  have c : decide ((pre.length : Int) < (s.length : Int)) = false := by simp [hs]
  have hp : s = pre := by simpa using hs
  refine ⟨.bad, zj Tryz.func195 rfl rfl ?_⟩
  simp only [↓GO, ↓DRW, GA, GX, ren, zm, za, refs, z8, cst, zq, isC, bin, una, z6, zd, blt, asArg, zg, zc, zf, z1, E.mkS, unN, ze, zn, zb, GS, simprocAttr, c]
  rw [hp]
 | b :: rest, pre, hs, hd => by
  have c : decide ((pre.length : Int) < (s.length : Int)) = true := by simp [hs]; omega
  have hget : s[pre.length]? = some b := by rw [hs]; exact tN pre b rest
  have hlen : s.length = pre.length + rest.length + 1 := by rw [hs]; simp; omega
  have hin := wq (b.toNat : Int) 48 57
  rw [bK] at hin
  have c9 : decide ((s.length : Int) > 9) = false := by simp only [decide_eq_false_iff_not]; omega
  have hv := nn pre 0 hd
  have hp10 : (10 : Nat) ^ pre.length ≤ 10 ^ 9 := Nat.pow_le_pow_right (by omega) (by omega)
  have e9 : (10 : Nat) ^ 9 = 1000000000 := by decide
  have hb8 := UW b
  cases hb : isD b with
  | false =>
   rw [hb] at hin
   refine ⟨.t (.int .i64 (uG 0 pre : Nat)), zj Tryz.func195 rfl rfl ?_⟩
   clear hs hlen
   simp (disch := omega) only [↓GO, ↓DRW, GA, GX, ren, zm, za, refs, z8, cst, zq, isC, bin, una, z6, zd, blt, asArg, zg, zc, zf, z1, E.mkS, unN, ze, zn, zb, GS, simprocAttr, c, hget, zk, conv, wrap_u8, hin, List.all_cons, hb]
  | true =>
   rw [hb] at hin
   have hd2 : (pre ++ [b]).all isD = true := by rw [List.all_append, hd]; simp [hb]
   obtain ⟨m, IH⟩ := R6 s hl rest (pre ++ [b]) (by rw [hs]; simp) hd2
   have hbb := (pw b).1 hb
   have hst : ((uG 0 (pre ++ [b]) : Nat) : Int) = 10 * ((uG 0 pre : Nat) : Int) + (b.toNat : Int) - 48 := by
    rw [ke, qk]; omega
   rw [hst, show ((pre ++ [b]).length : Int) = (pre.length : Int) + 1 by simp] at IH
   have hpl : pre.length ≤ 9 := by omega
   generalize uG 0 pre = vp at *
   generalize uG 0 s = vs at *
   clear hs hlen hst
   refine ⟨m, zj Tryz.func195 rfl rfl ?_⟩
   simp (disch := omega) only [↓GO, ↓DRW, GA, GX, ren, zm, za, refs, z8, cst, zq, isC, bin, una, z6, zd, blt, asArg, zg, zc, zf, z1, E.mkS, unN, ze, zn, zb, GS, simprocAttr, c, hget, zk, conv, wrap_u8, hin, List.all_cons, hb, c9, IH]
theorem l_rdL (s : Str) (h9 : 9 < s.length) (hl : s.length ≤ 281474976710656) :
 EV Tryz.prog pol (.loop 195 58 0 [.t (.str s), .t (.int .i64 0), .t (.int .i64 0)] []) = some (.loop .ret [.t (.str s), .t (.int .i64 (-1)), .t (.int .i64 0)] []) := by
 cases s with
 | nil => simp at h9
 | cons b r =>
  have c : decide ((0 : Int) < ((b :: r).length : Int)) = true := by simp only [decide_eq_true_eq]; omega
  have c9 : decide (((b :: r).length : Int) > 9) = true := by simp only [decide_eq_true_eq]; omega
  have hget : (b :: r)[0]? = some b := rfl
  have hin := wq (b.toNat : Int) 48 57
  rw [bK] at hin
  have hb8 := UW b
  generalize (b :: r) = s at *
  refine zj Tryz.func195 rfl rfl ?_
  cases hb : isD b with
  | false => rw [hb] at hin; simp (disch := omega) only [↓GO, ↓DRW, GA, GX, ren, zm, za, refs, z8, cst, zq, isC, bin, una, z6, zd, blt, asArg, zg, zc, zf, z1, E.mkS, unN, ze, zn, zb, GS, simprocAttr, c, vP, hget, zk, conv, wrap_u8, hin]
  | true => rw [hb] at hin; simp (disch := omega) only [↓GO, ↓DRW, GA, GX, ren, zm, za, refs, z8, cst, zq, isC, bin, una, z6, zd, blt, asArg, zg, zc, zf, z1, E.mkS, unN, ze, zn, zb, GS, simprocAttr, c, vP, hget, zk, conv, wrap_u8, hin, c9]
theorem iq (s : Str) (hl : s.length ≤ 281474976710656) : zo (EV Tryz.prog pol) 195 [.t (.str s)] = some (.t (.int .i64 (zO s))) := by
 rw [← Y1]
 apply zw
 refine zy rfl Tryz.func195 rfl (by kernel_rfl) ?_
 unfold Tryz.f195
 unfold r7
 by_cases h9 : s.length ≤ 9
 · obtain ⟨m, IH⟩ := R6 s h9 s [] rfl rfl
   simp only [List.length_nil, Int.natCast_zero, mG] at IH
   have e9 : decide (s.length ≤ 9) = true := by simpa using h9
   have hv := nn s 0
   have hp10 : (10 : Nat) ^ s.length ≤ 10 ^ 9 := Nat.pow_le_pow_right (by omega) h9
   have e10 : (10 : Nat) ^ 9 = 1000000000 := by decide
   cases ha : s.all isD with
   | false => rw [ha] at IH; simp only [cond_false] at IH; simp (disch := ((try simp only [LL]); omega)) only [↓GO, ↓DRW, GA, GX, ren, zm, za, refs, z8, cst, zq, isC, bin, una, z6, zd, blt, asArg, zg, zc, zf, z1, E.mkS, unN, ze, zn, zb, GS, simprocAttr, IH]
   | true =>
    rw [ha] at IH; simp only [cond_true] at IH
    have hv' := hv ha
    have hd := gg (uG 0 s : Nat) (by omega) (by omega)
    cases hn : (s == []) with
    | true => simp (disch := ((try simp only [LL]); omega)) only [↓GO, ↓DRW, GA, GX, ren, zm, za, refs, z8, cst, zq, isC, bin, una, z6, zd, blt, asArg, zg, zc, zf, z1, E.mkS, unN, ze, zn, zb, GS, simprocAttr, IH, e9, hn]
    | false =>
     cases he : (Lib.itoa (uG 0 s : Nat) == s) <;> simp (disch := ((try simp only [LL]); omega)) only [↓GO, ↓DRW, GA, GX, ren, zm, za, refs, z8, cst, zq, isC, bin, una, z6, zd, blt, asArg, zg, zc, zf, z1, E.mkS, unN, ze, zn, zb, GS, simprocAttr, bne, IH, e9, hn, hd, he]
 · have e9 : decide (s.length ≤ 9) = false := by simpa using h9
   have IH := l_rdL s (by omega) (by omega)
   simp (disch := ((try simp only [LL]); omega)) only [↓GO, ↓DRW, GA, GX, ren, zm, za, refs, z8, cst, zq, isC, bin, una, z6, zd, blt, asArg, zg, zc, zf, z1, E.mkS, unN, ze, zn, zb, GS, simprocAttr, IH, e9]
end Go.Proofs.YtonbkdklidfmfaaGreatDoor
/- Names and plain texts, by both; parts between a byte. Conditions: those of each lemma. -/
namespace Go.Proofs.YtonbkdklidfmfaaGreatDoor
open E
set_option linter.unusedSimpArgs false
set_option linter.unusedVariables false
set_option maxRecDepth 100000
theorem au : ∀ p s : Str, (decide ((s.length : Int) ≥ (p.length : Int)) && (s.take p.length == p)) = p.isPrefixOf s
 | [], s => by
  have : decide ((s.length : Int) ≥ (([] : Str).length : Int)) = true := by simp
  rw [this]; simp [List.isPrefixOf]
 | a :: p, [] => by
  have : decide ((([] : Str).length : Int) ≥ ((a :: p).length : Int)) = false := by simp only [decide_eq_false_iff_not, List.length_cons, List.length_nil]; omega
  rw [this]; simp [List.isPrefixOf]
 | a :: p, b :: s => by
  have ih := au p s
  have e1 : decide (((b :: s).length : Int) ≥ ((a :: p).length : Int)) = decide ((s.length : Int) ≥ (p.length : Int)) := by
   rw [decide_eq_decide]; simp only [List.length_cons]; omega
  rw [e1, List.isPrefixOf, ← ih, List.length_cons, List.take_succ_cons]
  by_cases h : b = a
  · subst h
    have : (b :: List.take p.length s == b :: p) = (List.take p.length s == p) := by rw [Bool.eq_iff_iff]; simp
    rw [this]; simp
  · have h2 : (b :: List.take p.length s == a :: p) = false := by rw [beq_eq_false_iff_ne]; intro e; injection e with e1 e2; exact h e1
    have h3 : (a == b) = false := by rw [beq_eq_false_iff_ne]; exact fun e => h e.symm
    rw [h2, h3]; simp
theorem js (s p : Str) (hs : s.length ≤ 9223372036854775807) (hp : p.length ≤ 9223372036854775807) : zo (EV Tryz.prog pol) 182 [.t (.str s), .t (.str p)] = some (.t (.bool (p.isPrefixOf s))) := by
 rw [← au]
 apply zw
 refine zy rfl Tryz.func182 rfl (by kernel_rfl) ?_
 unfold Tryz.f182
 cases h : decide ((s.length : Int) ≥ (p.length : Int)) with
 | false => simp (disch := ((try simp only [LL]); omega)) only [↓GO, ↓DRW, GA, GX, ren, zm, za, refs, z8, cst, zq, isC, bin, una, z6, zd, blt, asArg, zg, zc, zf, z1, E.mkS, unN, ze, zn, zb, GS, simprocAttr, GZ, h]
 | true =>
  have h2 := of_decide_eq_true h
  simp (disch := ((try simp only [LL]); omega)) only [↓GO, ↓DRW, GA, GX, ren, zm, za, refs, z8, cst, zq, isC, bin, una, z6, zd, blt, asArg, zg, zc, zf, z1, E.mkS, unN, ze, zn, zb, GS, simprocAttr, GZ, h]
theorem WE (s p : Str) (hs : s.length ≤ 9223372036854775807) (hp : p.length ≤ 9223372036854775807) : zo (EV Tryz.prog pol) 151 [.t (.str s), .t (.str p)] = some (.t (.bool (p.isPrefixOf s))) := by
 have h := js s p hs hp
 apply zw
 refine zy rfl Tryz.func151 rfl (by kernel_rfl) ?_
 unfold Tryz.f151
 simp (disch := ((try simp only [LL]); omega)) only [↓GO, ↓DRW, GA, GX, ren, zm, za, refs, z8, cst, zq, isC, bin, una, z6, zd, blt, asArg, zg, zc, zf, z1, E.mkS, unN, ze, zn, zb, GS, simprocAttr, GZ, h]
theorem fT : ∀ {p s : Str}, p.isPrefixOf s = true → p.length ≤ s.length
 | [], s, _ => by simp
 | a :: p, [], h => by simp [List.isPrefixOf] at h
 | a :: p, b :: s, h => by
  simp only [List.isPrefixOf, Bool.and_eq_true] at h
  have := fT h.2
  simp only [List.length_cons]; omega
theorem cD (s p : Str) (hs : s.length ≤ 9223372036854775807) (hp : p.length ≤ 9223372036854775807) : zo (EV Tryz.prog pol) 184 [.t (.str s), .t (.str p)] = some (.t (.str (cond (p.isPrefixOf s) (s.drop p.length) s))) := by
 have h := js s p hs hp
 apply zw
 refine zy rfl Tryz.func184 rfl (by kernel_rfl) ?_
 unfold Tryz.f184
 cases hb : p.isPrefixOf s with
 | false => rw [hb] at h; simp (disch := ((try simp only [LL]); omega)) only [↓GO, ↓DRW, GA, GX, ren, zm, za, refs, z8, cst, zq, isC, bin, una, z6, zd, blt, asArg, zg, zc, zf, z1, E.mkS, unN, ze, zn, zb, GS, simprocAttr, GZ, h]
 | true =>
  have h2 := fT hb
  rw [hb] at h; simp (disch := ((try simp only [LL]); omega)) only [↓GO, ↓DRW, GA, GX, ren, zm, za, refs, z8, cst, zq, isC, bin, una, z6, zd, blt, asArg, zg, zc, zf, z1, E.mkS, unN, ze, zn, zb, GS, simprocAttr, GZ, h]
theorem Yx (s p : Str) (hs : s.length ≤ 9223372036854775807) (hp : p.length ≤ 9223372036854775807) : zo (EV Tryz.prog pol) 153 [.t (.str s), .t (.str p)] = some (.t (.str (cond (p.isPrefixOf s) (s.drop p.length) s))) := by
 have h := cD s p hs hp
 apply zw
 refine zy rfl Tryz.func153 rfl (by kernel_rfl) ?_
 unfold Tryz.f153
 simp (disch := ((try simp only [LL]); omega)) only [↓GO, ↓DRW, GA, GX, ren, zm, za, refs, z8, cst, zq, isC, bin, una, z6, zd, blt, asArg, zg, zc, zf, z1, E.mkS, unN, ze, zn, zb, GS, simprocAttr, GZ, h]
theorem Tk (s : Str) : cond (([64] : Str).isPrefixOf s) (s.drop ([64] : Str).length) s = xe s := by
 cases s with
 | nil => rfl
 | cons x s =>
  by_cases h : x = 64
  · subst h; simp [List.isPrefixOf, xe]
  · have : (64 == x) = false := by rw [beq_eq_false_iff_ne]; exact fun e => h e.symm
    simp [List.isPrefixOf, xe, h, this]
theorem Sn (b : UInt8) : zo (EV Tryz.prog pol) 155 [.t (.int .u8 (b.toNat : Int))] = some (.t (.bool (ua b))) := by
 have h1 := jr (b.toNat : Int)
 have h2 := od (b.toNat : Int)
 apply zw
 refine zy rfl Tryz.func155 rfl (by kernel_rfl) ?_
 unfold Tryz.f155
 simp only [ua, nb]
 generalize hx : B2 (b.toNat : Int) 97 122 = x1 at *
 generalize hy : B2 (b.toNat : Int) 48 57 = x2 at *
 repeat' (first | (((first | with_reducible refine ou (fun hA => ?_) (fun hA => ?_) | with_reducible refine oo (fun hA => ?_) (fun hA => ?_)) <;> (try simp only [bne, Bool.not_eq_true', Bool.not_eq_false'] at hA) <;> (first | (have hP := Int.le_of_eq (eq_of_beq (α := Int) hA); have hQ := Int.le_of_eq (eq_of_beq (α := Int) hA).symm) | have hP := of_decide_eq_true hA | have hP := of_decide_eq_false hA | skip)) <;> (simp (disch := ((try simp only [LL]); omega)) only [↓GO, ↓DRW, GA, GX, ren, zm, za, refs, z8, cst, zq, isC, bin, una, z6, zd, blt, asArg, zg, zc, zf, z1, E.mkS, unN, ze, zn, zb, GS, simprocAttr, zk, bne, *])) | (simp (disch := ((try simp only [LL]); omega)) only [↓GO, ↓DRW, GA, GX, ren, zm, za, refs, z8, cst, zq, isC, bin, una, z6, zd, blt, asArg, zg, zc, zf, z1, E.mkS, unN, ze, zn, zb, GS, simprocAttr, zk, bne, *]))
theorem nP (b : UInt8) (s : Str) : lq s [b] = yS b s := by
 rw [← kn]
 unfold lq Lib.split Lib.countB
 rw [Lib.splitB_data]
theorem vM (x : Str) (l : List Str) : strs (x :: l) = [.str x] :: strs l := rfl
theorem qG (a b : List Str) : strs (a ++ b) = strs a ++ strs b := by simp [strs]
theorem yh : strs [] = [] := rfl
theorem xl (pre : List Str) (x : Str) (rest : List Str) : (strs (pre ++ x :: rest))[pre.length]? = some [.str x] := by
 rw [qG, vM]
 have := tN (strs pre) [T.str x] (strs rest)
 rwa [zi] at this
theorem aW (s : Str) (sc : Bool) (parts : List Str) (hl : parts.length ≤ 4294967296) (hb : ∀ p ∈ parts, p.length ≤ 4294967296) : ∀ (rest pre : List Str), parts = pre ++ rest →
 EV Tryz.prog pol (.loop 123 58 0 [.t (.str s), .t (.bool sc), .t (.list 1 (strs parts)), .t (.int .i64 (parts.length : Int)), .t (.int .i64 (pre.length : Int))] []) = some (cond (u6 (sc && ((pre.length : Int) == 0)) rest) (.loop (.exit 0) [.t (.str s), .bad] []) (.loop .ret [.t (.str s), .t (.bool false)] []))
 | [], pre, hs => by
  have c : decide ((pre.length : Int) < (parts.length : Int)) = false := by simp [hs]
  refine zj Tryz.func123 rfl rfl ?_
  simp only [↓GO, ↓DRW, GA, GX, ren, zm, za, refs, z8, cst, zq, isC, bin, una, z6, zd, blt, asArg, zg, zc, zf, z1, E.mkS, unN, ze, zn, zb, GS, simprocAttr, c, u6]
 | x :: rest, pre, hs => by
  have c : decide ((pre.length : Int) < (parts.length : Int)) = true := by simp [hs]; omega
  have hget : (strs parts)[pre.length]? = some [.str x] := by rw [hs]; exact xl pre x rest
  have hlen : pre.length + rest.length + 1 ≤ parts.length := by rw [hs]; simp; omega
  have hx : x.length ≤ 4294967296 := hb x (by rw [hs]; simp)
  have IH := aW s sc parts hl hb rest (pre ++ [x]) (by rw [hs]; simp)
  have hc := ZV 155 ua Sn x (by omega)
  rw [show ((pre ++ [x]).length : Int) = (pre.length : Int) + 1 by simp] at IH
  have e0 : (((pre.length : Int) + 1 == 0)) = false := by rw [beq_eq_false_iff_ne]; omega
  rw [e0, Bool.and_false] at IH
  clear hs hb
  refine zj Tryz.func123 rfl rfl ?_
  rw [u6]
  have hN : (x == rp) = (x == [110, 111, 100, 101, 95, 109, 111, 100, 117, 108, 101, 115]) := rfl
  rw [hN]
  cases ha : x.all ua <;> rw [ha] at hc <;> cases h1 : (x == []) <;> cases h2 : (x == [110, 111, 100, 101, 95, 109, 111, 100, 117, 108, 101, 115]) <;> cases sc <;> cases h3 : ((pre.length : Int) == 0) <;>
   simp (disch := ((try simp only [LL]); omega)) only [↓GO, ↓DRW, GA, GX, ren, zm, za, refs, z8, cst, zq, isC, bin, una, z6, zd, blt, asArg, zg, zc, zf, z1, E.mkS, unN, ze, zn, zb, GS, simprocAttr, GZ, c, hget, zk, hc, h1, h2, h3, IH, zi]
theorem Sm (s : Str) (hl : s.length ≤ 1048576) : zo (EV Tryz.prog pol) 123 [.t (.str s)] = some (.t (.bool (sI s))) := by
 have h1 := WE s [64] (by omega) (by simp)
 have h2 := Yx s [64] (by omega) (by simp)
 rw [Tk] at h2
 have ht : (xe s).length ≤ s.length := by
  unfold xe; split
  · simp
  · split
    · simp
    · simp
 have hbk := vc 47 (xe s)
 have h3 := iT (xe s) [47] (by omega) (by simp)
 rw [nP] at h3
 have IH := aW s (nc s) (yS 47 (xe s)) (by omega) (fun p hp => by have := u5 hp; omega) _ [] rfl
 rw [show (([64] : Str).isPrefixOf s) = nc s from rfl] at h1
 simp only [List.length_nil, Int.natCast_zero, show ((0 : Int) == 0) = true from rfl, Bool.and_true] at IH
 apply zw
 refine zy rfl Tryz.func123 rfl (by kernel_rfl) ?_
 unfold Tryz.f123
 unfold sI
 cases hp : u6 (nc s) (yS 47 (xe s)) <;> rw [hp] at IH <;> simp only [cond_true, cond_false] at IH <;>
  simp (disch := ((try simp only [LL]); omega)) only [↓GO, ↓DRW, GA, GX, ren, zm, za, refs, z8, cst, zq, isC, bin, una, z6, zd, blt, asArg, zg, zc, zf, z1, E.mkS, unN, ze, zn, zb, GS, simprocAttr, GZ, h1, h2, h3, zi, IH]
theorem bJ (s : Str) (b : UInt8) (hl : s.length ≤ 4294967296) : ∀ (rest cur pre : Str) (out : List Str) (cap : Option Nat) (m : Nat), s = pre ++ (cur ++ rest) → m = pre.length + cur.length → out.length ≤ m →
 ∃ (out' : List Str) (fr : Nat) (cap' : Option Nat), out'.length ≤ s.length ∧ fr ≤ s.length ∧ out' ++ [s.drop fr] = out ++ (match yS b rest with | p :: r => (cur ++ p) :: r | [] => []) ∧
  EV Tryz.prog pol (.loop 148 122 0 [.t (.str s), .t (.int .u8 (b.toNat : Int)), .sl 0 0 out.length cap, .t (.int .i64 (pre.length : Int)), .t (.int .i64 (m : Int))] [.ts 1 (strs out)]) = some (.loop (.exit 0) [.t (.str s), .sl 0 0 out'.length cap', .t (.int .i64 (fr : Int))] [.ts 1 (strs out')])
 | [], cur, pre, out, cap, m, hs, hm, ho => by
  have c : decide ((m : Int) < (s.length : Int)) = false := by simp [hs]; omega
  have hn : s.length = pre.length + cur.length := by rw [hs]; simp
  refine ⟨out, pre.length, cap, by omega, by omega, ?_, ?_⟩
  · simp only [yS, hs, List.append_nil, List.drop_left]
  · refine zj Tryz.func148 rfl rfl ?_
    simp only [↓GO, ↓DRW, GA, GX, ren, zm, za, refs, z8, cst, zq, isC, bin, una, z6, zd, blt, asArg, zg, zc, zf, z1, E.mkS, unN, ze, zn, zb, GS, simprocAttr, c]
 | x :: rest, cur, pre, out, cap, m, hs, hm, ho => by
  have hn : s.length = pre.length + cur.length + rest.length + 1 := by rw [hs]; simp; omega
  have c : decide ((m : Int) < (s.length : Int)) = true := by simp only [decide_eq_true_eq]; omega
  have hget : s[m]? = some x := by
   rw [hs, hm, ← List.append_assoc, ← List.length_append]; exact tN (pre ++ cur) x rest
  by_cases hx : x = b
  · subst hx
    have hcut : (s.drop pre.length).take (m - pre.length) = cur := by
     rw [hs, hm, List.drop_left, show pre.length + cur.length - pre.length = cur.length by omega, List.take_left]
    obtain ⟨out', fr, cap', q1, q2, q3, q4⟩ := bJ s x hl rest [] (pre ++ cur ++ [x]) (out ++ [cur]) none (m + 1) (by rw [hs]; simp) (by simp; omega) (by simp; omega)
    refine ⟨out', fr, cap', q1, q2, ?_, ?_⟩
    · rw [q3, u0]
      cases hc : yS x rest with
      | nil => exact absurd hc (rf x rest)
      | cons p r => simp
    · rw [show ((pre ++ cur ++ [x]).length : Int) = (m : Int) + 1 by simp; omega, show ((m + 1 : Nat) : Int) = (m : Int) + 1 by omega] at q4
      rw [qG, vM, yh, List.length_append, List.length_cons, List.length_nil, Nat.zero_add] at q4
      have hol : out.length ≤ 4294967296 := by omega
      clear hs q3
      refine zj Tryz.func148 rfl rfl ?_
      simp (disch := ((try simp only [LL]); omega)) only [↓GO, ↓DRW, GA, GX, ren, zm, za, refs, z8, cst, zq, isC, bin, una, z6, zd, blt, asArg, zg, zc, zf, z1, E.mkS, unN, ze, zn, zb, GS, simprocAttr, GZ, c, hget, zk, hcut, q4, zi, ya]
  · have c2 : ((x.toNat : Int) == (b.toNat : Int)) = false := by
     rw [beq_eq_false_iff_ne]; intro e; exact hx (UInt8.toNat_inj.1 (by omega))
    obtain ⟨out', fr, cap', q1, q2, q3, q4⟩ := bJ s b hl rest (cur ++ [x]) pre out cap (m + 1) (by rw [hs]; simp) (by simp; omega) (by omega)
    refine ⟨out', fr, cap', q1, q2, ?_, ?_⟩
    · rw [q3]
      cases hc : yS b rest with
      | nil => exact absurd hc (rf b rest)
      | cons p r => rw [wD b x rest p r hx hc]; simp
    · rw [show ((m + 1 : Nat) : Int) = (m : Int) + 1 by omega] at q4
      clear hs q3
      refine zj Tryz.func148 rfl rfl ?_
      simp (disch := ((try simp only [LL]); omega)) only [↓GO, ↓DRW, GA, GX, ren, zm, za, refs, z8, cst, zq, isC, bin, una, z6, zd, blt, asArg, zg, zc, zf, z1, E.mkS, unN, ze, zn, zb, GS, simprocAttr, GZ, c, hget, zk, c2, q4, zi, ya]
theorem bU (s : Str) (b : UInt8) (hl : s.length ≤ 4194304) : zo (EV Tryz.prog pol) 148 [.t (.str s), .t (.int .u8 (b.toNat : Int))] = some (.t (.list 1 (strs (yS b s)))) := by
 obtain ⟨out, fr, cap, q1, q2, q3, q4⟩ := bJ s b (by omega) s [] [] [] (some 0) 0 rfl rfl (by simp)
 simp only [List.nil_append, List.length_nil, Int.natCast_zero, yh] at q4 q3
 have e : (match yS b s with | p :: r => p :: r | [] => []) = yS b s := by cases yS b s <;> rfl
 rw [e] at q3
 have ho : (strs out ++ [[.str (List.drop fr s)]]) = strs (yS b s) := by rw [← q3, qG]; rfl
 have ht : List.take (out.length + 1) (strs (yS b s)) = strs (yS b s) := List.take_of_length_le (by rw [zi, ← q3]; simp)
 apply zw
 refine zy rfl Tryz.func148 rfl (by kernel_rfl) ?_
 unfold Tryz.f148
 simp (disch := ((try simp only [LL]); omega)) only [↓GO, ↓DRW, GA, GX, ren, zm, za, refs, z8, cst, zq, isC, bin, una, z6, zd, blt, asArg, zg, zc, zf, z1, E.mkS, unN, ze, zn, zb, GS, simprocAttr, GZ, q4, zi, ya, ho, ht]
theorem sB (s : Str) (P : T) (i : T) (p : Str) (hl : p.length ≤ 4294967296) : ∀ (rest pre : Str), p = pre ++ rest →
 EV Tryz.prog pol (.loop 120 59706 0 [.t (.str s), .t P, .t i, .t (.str p), .t (.int .i64 (pre.length : Int))] []) = some (cond (rest.all ua) (.loop (.exit 2) [.t (.str s), .bad, .t P, .t i, .t (.str p)] []) (.loop .ret [.t (.str s), .t (.bool false), .t P, .t i, .t (.str p)] []))
 | [], pre, hs => by
  have c : decide ((pre.length : Int) < (p.length : Int)) = false := by simp [hs]
  refine zj Tryz.func120 rfl rfl ?_
  simp only [↓GO, ↓DRW, GA, GX, ren, zm, za, refs, z8, cst, zq, isC, bin, una, z6, zd, blt, asArg, zg, zc, zf, z1, E.mkS, unN, ze, zn, zb, GS, simprocAttr, c]
 | b :: rest, pre, hs => by
  have c : decide ((pre.length : Int) < (p.length : Int)) = true := by simp [hs]; omega
  have hget : p[pre.length]? = some b := by rw [hs]; exact tN pre b rest
  have hlen : p.length = pre.length + rest.length + 1 := by rw [hs]; simp; omega
  have IH := sB s P i p hl rest (pre ++ [b]) (by rw [hs]; simp)
  rw [show ((pre ++ [b]).length : Int) = (pre.length : Int) + 1 by simp] at IH
  have hb := n5 b
  clear hs
  refine zj Tryz.func120 rfl rfl ?_
  rw [List.all_cons, ua]
  simp only [nb] at *
  cases h1 : (B2 (b.toNat : Int) 97 122 || B2 (b.toNat : Int) 48 57) <;> rw [h1] at hb <;> cases h2 : ((b.toNat : Int) == 46) <;> cases h3 : ((b.toNat : Int) == 95) <;> cases h4 : ((b.toNat : Int) == 45) <;>
   simp (disch := ((try simp only [LL]); omega)) only [↓GO, ↓DRW, GA, GX, ren, zm, za, refs, z8, cst, zq, isC, bin, una, z6, zd, blt, asArg, zg, zc, zf, z1, E.mkS, unN, ze, zn, zb, GS, simprocAttr, GZ, c, hget, zk, hb, h2, h3, h4, bne, IH]
theorem aV (s : Str) (parts : List Str) (hl : parts.length ≤ 4294967296) (hb : ∀ p ∈ parts, p.length ≤ 4294967296) : ∀ (rest pre : List Str), parts = pre ++ rest → pre ≠ [] →
 EV Tryz.prog pol (.loop 120 58 0 [.t (.str s), .t (.list 1 (strs parts)), .t (.int .i64 (pre.length : Int))] []) = some (cond (lD rest) (.loop (.exit 0) [.t (.str s), .bad] []) (.loop .ret [.t (.str s), .t (.bool false)] []))
 | [], pre, hs, _ => by
  have c : decide ((pre.length : Int) < (parts.length : Int)) = false := by simp [hs]
  refine zj Tryz.func120 rfl rfl ?_
  simp only [↓GO, ↓DRW, GA, GX, ren, zm, za, refs, z8, cst, zq, isC, bin, una, z6, zd, blt, asArg, zg, zc, zf, z1, E.mkS, unN, ze, zn, zb, GS, simprocAttr, zi, c, lD]
 | x :: rest, pre, hs, hn => by
  have c : decide ((pre.length : Int) < (parts.length : Int)) = true := by simp [hs]; omega
  have hget : (strs parts)[pre.length]? = some [.str x] := by rw [hs]; exact xl pre x rest
  have hlen : pre.length + rest.length + 1 ≤ parts.length := by rw [hs]; simp; omega
  have hx : x.length ≤ 4294967296 := hb x (by rw [hs]; simp)
  have IH := aV s parts hl hb rest (pre ++ [x]) (by rw [hs]; simp) (by simp)
  have hin := sB s (.list 1 (strs parts)) (.int .i64 (pre.length : Int)) x hx x [] rfl
  simp only [List.length_nil, Int.natCast_zero] at hin
  rw [show ((pre ++ [x]).length : Int) = (pre.length : Int) + 1 by simp] at IH
  have e0 : (((pre.length : Int) == 0)) = false := by
   rw [beq_eq_false_iff_ne]; intro h; apply hn; apply List.eq_nil_of_length_eq_zero; omega
  clear hs hb
  refine zj Tryz.func120 rfl rfl ?_
  rw [lD]
  have hN : (x == rp) = (x == [110, 111, 100, 101, 95, 109, 111, 100, 117, 108, 101, 115]) := rfl
  rw [hN]
  cases ha : x.all ua <;> rw [ha] at hin <;> simp only [cond_true, cond_false] at hin <;> cases h1 : (x == []) <;> cases h2 : (x == [110, 111, 100, 101, 95, 109, 111, 100, 117, 108, 101, 115]) <;>
   simp (disch := ((try simp only [LL]); omega)) only [↓GO, ↓DRW, GA, GX, ren, zm, za, refs, z8, cst, zq, isC, bin, una, z6, zd, blt, asArg, zg, zc, zf, z1, E.mkS, unN, ze, zn, zb, GS, simprocAttr, GZ, c, hget, zk, hin, h1, h2, e0, IH, zi]
theorem TT (s : Str) (parts : List Str) (hl : parts.length ≤ 4294967296) (hb : ∀ p ∈ parts, p.length ≤ 4294967296) (x : Str) (rest : List Str) (hs : parts = x :: rest) :
 EV Tryz.prog pol (.loop 120 58 0 [.t (.str s), .t (.list 1 (strs parts)), .t (.int .i64 0)] []) = some (cond (qq (x :: rest)) (.loop (.exit 0) [.t (.str s), .bad] []) (.loop .ret [.t (.str s), .t (.bool false)] [])) := by
 have c : decide ((0 : Int) < (parts.length : Int)) = true := by simp only [decide_eq_true_eq, hs, List.length_cons]; omega
 have hget : (strs parts)[0]? = some [.str x] := by rw [hs]; rfl
 have hx : x.length ≤ 4294967296 := hb x (by rw [hs]; simp)
 have IH := aV s parts hl hb rest [x] hs (by simp)
 simp only [List.length_nil, List.length_cons, Nat.zero_add, Int.natCast_one] at IH
 have hN : (x == rp) = (x == [110, 111, 100, 101, 95, 109, 111, 100, 117, 108, 101, 115]) := rfl
 rw [qq, hN]
 clear hs hb hN
 cases x with
 | nil =>
  have hin := sB s (.list 1 (strs parts)) (.int .i64 0) [] hx [] [] rfl
  simp only [List.length_nil, Int.natCast_zero, List.all_nil, cond_true] at hin
  have h2 : (([] : Str) == [110, 111, 100, 101, 95, 109, 111, 100, 117, 108, 101, 115]) = false := rfl
  have h3 : (([] : Str) == []) = true := rfl
  have h4 : xe [] = [] := rfl
  refine zj Tryz.func120 rfl rfl ?_
  simp (disch := ((try simp only [LL]); omega)) only [↓GO, ↓DRW, GA, GX, ren, zm, za, refs, z8, cst, zq, isC, bin, una, z6, zd, blt, asArg, zg, zc, zf, z1, E.mkS, unN, ze, zn, zb, GS, simprocAttr, GZ, c, hget, zk, hin, zi, h2, h3, h4, Int.natCast_zero]
 | cons y t =>
  have hlt : decide (((y :: t).length : Int) > 0) = true := by simp only [decide_eq_true_eq, List.length_cons]; omega
  have hg0 : (y :: t)[0]? = some y := rfl
  have hyl : 1 ≤ (y :: t).length := by simp
  by_cases h64 : y = 64
  · subst h64
    have hin2 := sB s (.list 1 (strs parts)) (.int .i64 0) t (by simp only [List.length_cons] at hx; omega) t [] rfl
    simp only [List.length_nil, Int.natCast_zero] at hin2
    have e1 : (((64 : UInt8) :: t) == [110, 111, 100, 101, 95, 109, 111, 100, 117, 108, 101, 115]) = false := by simp
    have e2 : xe (64 :: t) = t := by simp [xe]
    have e3 : (((64 : UInt8)).toNat : Int) = 64 := rfl
    have hd : List.drop 1 ((64 : UInt8) :: t) = t := rfl
    rw [e2]
    generalize hy : (64 : UInt8) :: t = yy at *
    cases ha : t.all ua <;> rw [ha] at hin2 <;> simp only [cond_true, cond_false] at hin2 <;> cases h1 : (t == []) <;>
     refine zj Tryz.func120 rfl rfl ?_ <;> simp (disch := ((try simp only [LL]); omega)) only [↓GO, ↓DRW, GA, GX, ren, zm, za, refs, z8, cst, zq, isC, bin, una, z6, zd, blt, asArg, zg, zc, zf, z1, E.mkS, unN, ze, zn, zb, GS, simprocAttr, GZ, c, hget, zk, hin2, zi, e1, e3, hlt, hg0, hd, h1, IH, Int.zero_add]
  · have e2 : xe (y :: t) = y :: t := by simp [xe, h64]
    have e3 : ((y.toNat : Int) == 64) = false := by
     rw [beq_eq_false_iff_ne]; intro h; exact h64 (UInt8.toNat_inj.1 (by rw [show (64 : UInt8).toNat = 64 from rfl]; omega))
    have hin := sB s (.list 1 (strs parts)) (.int .i64 0) (y :: t) hx (y :: t) [] rfl
    simp only [List.length_nil, Int.natCast_zero] at hin
    rw [e2]
    have h1 : ((y :: t) == []) = false := rfl
    generalize hy : y :: t = yy at *
    cases ha : yy.all ua <;> rw [ha] at hin <;> simp only [cond_true, cond_false] at hin <;> cases h2 : (yy == [110, 111, 100, 101, 95, 109, 111, 100, 117, 108, 101, 115]) <;>
     refine zj Tryz.func120 rfl rfl ?_ <;> simp (disch := ((try simp only [LL]); omega)) only [↓GO, ↓DRW, GA, GX, ren, zm, za, refs, z8, cst, zq, isC, bin, una, z6, zd, blt, asArg, zg, zc, zf, z1, E.mkS, unN, ze, zn, zb, GS, simprocAttr, GZ, c, hget, zk, hin, zi, e3, hlt, hg0, h1, h2, IH, Int.zero_add]
theorem Sl (s : Str) (hl : s.length ≤ 1048576) : zo (EV Tryz.prog pol) 120 [.t (.str s)] = some (.t (.bool (sI s))) := by
 have hbk := vc 47 s
 have h3 := bU s 47 (by omega)
 rw [show (((47 : UInt8)).toNat : Int) = 47 from rfl] at h3
 rw [← Yh]
 cases hc : yS 47 s with
 | nil => exact absurd hc (rf 47 s)
 | cons x rest =>
  rw [hc] at h3 hbk
  have hb : ∀ p ∈ x :: rest, p.length ≤ 4294967296 := fun p hp => by have := u5 hp; omega
  have LP := TT s (x :: rest) (by omega) hb x rest rfl
  generalize x :: rest = parts at *
  apply zw
  refine zy rfl Tryz.func120 rfl (by kernel_rfl) ?_
  unfold Tryz.f120
  cases hp : qq parts <;> rw [hp] at LP <;> simp only [cond_true, cond_false] at LP <;>
   simp (disch := ((try simp only [LL]); omega)) only [↓GO, ↓DRW, GA, GX, ren, zm, za, refs, z8, cst, zq, isC, bin, una, z6, zd, blt, asArg, zg, zc, zf, z1, E.mkS, unN, ze, zn, zb, GS, simprocAttr, GZ, h3, LP]
theorem WD (b : UInt8) : zo (EV Tryz.prog pol) 160 [.t (.int .u8 (b.toNat : Int))] = some (.t (.bool (qp b))) := by
 apply zw
 refine zy rfl Tryz.func160 rfl (by kernel_rfl) ?_
 unfold Tryz.f160
 unfold qp B2
 simp only [nb]
 cases h1 : decide ((33 : Int) ≤ (b.toNat : Int)) <;> cases h2 : decide ((b.toNat : Int) ≤ 126) <;> cases h3 : ((b.toNat : Int) == 34) <;> cases h4 : ((b.toNat : Int) == 39) <;> cases h5 : ((b.toNat : Int) == 44) <;>
  simp (disch := ((try simp only [LL]); omega)) only [↓GO, ↓DRW, GA, GX, ren, zm, za, refs, z8, cst, zq, isC, bin, una, z6, zd, blt, asArg, zg, zc, zf, z1, E.mkS, unN, ze, zn, zb, GS, simprocAttr, GZ, h1, h2, h3, h4, h5, bne, ge_iff_le]
theorem WC (s : Str) (hl : s.length ≤ 1048576) : zo (EV Tryz.prog pol) 125 [.t (.str s)] = some (.t (.bool (tH s))) := by
 have h := ZV 160 qp WD s (by omega)
 apply zw
 refine zy rfl Tryz.func125 rfl (by kernel_rfl) ?_
 unfold Tryz.f125
 unfold tH
 cases h1 : decide ((s.length : Int) ≤ 100) <;> simp (disch := ((try simp only [LL]); omega)) only [↓GO, ↓DRW, GA, GX, ren, zm, za, refs, z8, cst, zq, isC, bin, una, z6, zd, blt, asArg, zg, zc, zf, z1, E.mkS, unN, ze, zn, zb, GS, simprocAttr, GZ, h, h1]
theorem eF (s : Str) (hl : s.length ≤ 1048576) : ∀ (rest pre : Str), s = pre ++ rest →
 EV Tryz.prog pol (.loop 122 26 0 [.t (.str s), .t (.int .i64 (pre.length : Int))] []) = some (cond (rest.all qp) (.loop (.exit 0) [.t (.str s), .bad] []) (.loop .ret [.t (.str s), .t (.bool false)] []))
 | [], pre, hs => by
  have c : decide ((pre.length : Int) < (s.length : Int)) = false := by simp [hs]
  refine zj Tryz.func122 rfl rfl ?_
  simp only [↓GO, ↓DRW, GA, GX, ren, zm, za, refs, z8, cst, zq, isC, bin, una, z6, zd, blt, asArg, zg, zc, zf, z1, E.mkS, unN, ze, zn, zb, GS, simprocAttr, c]
 | b :: rest, pre, hs => by
  have c : decide ((pre.length : Int) < (s.length : Int)) = true := by simp [hs]; omega
  have hget : s[pre.length]? = some b := by rw [hs]; exact tN pre b rest
  have hlen : s.length = pre.length + rest.length + 1 := by rw [hs]; simp; omega
  have IH := eF s hl rest (pre ++ [b]) (by rw [hs]; simp)
  rw [show ((pre ++ [b]).length : Int) = (pre.length : Int) + 1 by simp] at IH
  have hb := wq (b.toNat : Int) 33 126
  clear hs
  refine zj Tryz.func122 rfl rfl ?_
  rw [List.all_cons, qp]
  simp only [nb]
  cases h1 : B2 (b.toNat : Int) 33 126 <;> rw [h1] at hb <;> cases h3 : ((b.toNat : Int) == 34) <;> cases h4 : ((b.toNat : Int) == 39) <;> cases h5 : ((b.toNat : Int) == 44) <;> cases h6 : ((b.toNat : Int) == 92) <;>
   simp (disch := ((try simp only [LL]); omega)) only [↓GO, ↓DRW, GA, GX, ren, zm, za, refs, z8, cst, zq, isC, bin, una, z6, zd, blt, asArg, zg, zc, zf, z1, E.mkS, unN, ze, zn, zb, GS, simprocAttr, GZ, c, hget, zk, conv, wrap_u8, hb, h3, h4, h5, h6, bne, IH]
theorem WB (s : Str) (hl : s.length ≤ 1048576) : zo (EV Tryz.prog pol) 122 [.t (.str s)] = some (.t (.bool (tH s))) := by
 have IH := eF s hl s [] rfl
 simp only [List.length_nil, Int.natCast_zero] at IH
 apply zw
 refine zy rfl Tryz.func122 rfl (by kernel_rfl) ?_
 unfold Tryz.f122
 unfold tH
 cases ha : s.all qp <;> rw [ha] at IH <;> simp only [cond_true, cond_false] at IH
 · simp (disch := ((try simp only [LL]); omega)) only [↓GO, ↓DRW, GA, GX, ren, zm, za, refs, z8, cst, zq, isC, bin, una, z6, zd, blt, asArg, zg, zc, zf, z1, E.mkS, unN, ze, zn, zb, GS, simprocAttr, GZ, IH]
 · cases h1 : decide ((s.length : Int) ≤ 100) with
   | false => simp (disch := ((try simp only [LL]); omega)) only [↓GO, ↓DRW, GA, GX, ren, zm, za, refs, z8, cst, zq, isC, bin, una, z6, zd, blt, asArg, zg, zc, zf, z1, E.mkS, unN, ze, zn, zb, GS, simprocAttr, GZ, IH, h1]
   | true =>
    have h2 := of_decide_eq_true h1
    have h3 : decide ((s.length : Int) < 20000) = true := by simp only [decide_eq_true_eq]; omega
    simp (disch := ((try simp only [LL]); omega)) only [↓GO, ↓DRW, GA, GX, ren, zm, za, refs, z8, cst, zq, isC, bin, una, z6, zd, blt, asArg, zg, zc, zf, z1, E.mkS, unN, ze, zn, zb, GS, simprocAttr, GZ, IH, h1, h3]
end Go.Proofs.YtonbkdklidfmfaaGreatDoor

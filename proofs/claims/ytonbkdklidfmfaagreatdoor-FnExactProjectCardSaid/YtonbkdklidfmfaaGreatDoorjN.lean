/- Joined: K44 K45 K46 V18 K47 B16 B17 W14. Conditions: those of each lemma. -/
import Derived.Test.YtonbkdklidfmfaaGreatDoorjM
import Derived.Test.YtonbkdklidfmfaaGreatDoorjL
import Derived.Test.YtonbkdklidfmfaaGreatDoorjJ
import Derived.Test.YtonbkdklidfmfaaGreatDoorjI
set_option linter.unusedVariables false
set_option linter.unusedSimpArgs false
namespace Go.Proofs.YtonbkdklidfmfaaGreatDoor
open E
set_option linter.unusedSimpArgs false
set_option linter.unusedVariables false
set_option maxRecDepth 100000
set_option maxHeartbeats 4000000 in
theorem ie (f : Int) (hf : u0 f) (tT : List (List T)) (nt : Nat) (n : Nat) : ∀ (rest pre : List z1), n = pre.length + rest.length → n ≤ 1048576 → (∀ x ∈ rest, x.zY ≤ 1048576) →
 EV Tryz.prog pol (.loop 10 506 0 [.ptr 0 0 0, .ptr 1 0 0, .ptr 2 0 0, .t (.int .i64 (n : Int)), .t (.int .i64 (pre.length : Int))] [.vs 1 [[.t (.int .i64 f)]], .vs 2 [zG], .vs 2 [[.sl 3 0 nt none, .sl 4 0 n none]], .ts 1 tT, .vs 6 (ocE (z1.zh pre) ++ ocE (z1.zh rest))])
  = some (.loop (.exit 5) [.ptr 0 0 0, .ptr 1 0 0] [.vs 2 [zG], .vs 2 [[.sl 2 0 nt none, .sl 3 0 n none]], .ts 1 tT, .vs 6 (ocE (z1.zh (pre ++ rest.map (zS f))))])
 | [], pre, hn, hM, hb => by
  have c : decide ((pre.length : Int) < (n : Int)) = false := by simp at hn; apply decide_eq_false; omega
  obtain ⟨h1, h2, _⟩ := x8 pre
  rw [List.map_nil, List.append_nil, show ocE (z1.zh []) = [] from rfl, List.append_nil]
  generalize ocE (z1.zh pre) = E0 at *
  simp only [zG]
  refine zk Tryz.func10 rfl rfl ?_
  simp (disch := ((try simp only [LL]); omega)) only [↓GO, ↓DRW, GA, GX, ren, zo, za, refs, z8, cst, zr, isC, bin, una, z7, zd, blt, asArg, zg, zc, zf, z6, E.mkS, unN, ze, zq, zb, GS, simprocAttr, zD, zE, yT, yN, yP, yO, yU, gh1, yM, yA, yG, zR, mkO, yH, yB, y7, yS, zK, yL, yK, y9, oc, oTs, oT, zO, zO.rowTs, yF, isL, Bool.not_false, Bool.true_and, Bool.and_true, Bool.and_self, List.flatMap_append, List.map_append, List.set_cons_zero, List.set_cons_succ, GZ, c, h1, h2, zH]
 | x :: rest, pre, hn, hM, hb => by
  simp only [List.length_cons] at hn
  have c : decide ((pre.length : Int) < (n : Int)) = true := by apply decide_eq_true; omega
  have c0 : decide ((0 : Int) ≤ (pre.length : Int)) = true := by apply decide_eq_true; omega
  have c00 : (0 : Int) ≤ (pre.length : Int) := by omega
  have hpl : pre.length ≤ 1048576 := by omega
  have hPl : (ocE (z1.zh pre)).length = pre.length := by rw [zT, z1.zj]
  have IH := ie f hf tT nt n rest (pre ++ [zS f x]) (by simp; omega) hM (fun y hy => hb y (by simp [hy]))
  rw [wB, show ocE (z1.zh [zS f x]) = [[V.t (.str x.name), .t (.str x.version), .t (.str (zS f x).source), .o (.list 2 (zy.zh (x.sums.filter (xo f)))), .t (.bool (zS f x).dev), .o (.list 1 (strs (zS f x).zC))]] from rfl, show ((pre ++ [zS f x]).length : Int) = (pre.length : Int) + 1 by simp, List.append_assoc, List.singleton_append, List.append_assoc, List.singleton_append] at IH
  rw [dC, List.map_cons]
  have hxb := hb x (by simp)
  obtain ⟨J, hJ, d1⟩ := c_osI f hf _ _ (x8 pre) (x8 rest) pre.length hPl x hxb x.sums.length rfl
  obtain ⟨hA1, hA2, _⟩ := x8 pre
  obtain ⟨hB1, hB2, _⟩ := x8 rest
  have hg := fun y => xH (ocE (z1.zh pre)) (ocE (z1.zh rest)) y pre.length hPl
  have hs := fun y z => xt (ocE (z1.zh pre)) (ocE (z1.zh rest)) y z pre.length hPl
  have hf2 := xl x.sums
  have hs2 := zy.zj x.sums
  have hk2 : (zy.zh x.sums).take x.sums.length = zy.zh x.sums := List.take_of_length_le (by rw [hs2]; exact Nat.le_refl _)
  have hp1 : (zS f x).source = cond (f == 3 || f == 4) [] x.source := rfl
  have hp2 : (zS f x).dev = cond (f == 1 || f == 2 || f == 3) false x.dev := rfl
  have hp3 : (zS f x).zC = cond (f == 3 || f == 4) [] x.zC := rfl
  rw [hp1, hp2, hp3] at IH
  generalize (x.sums.filter (xo f)) = Z at *
  have hE : (zy.zh (Z ++ J)).take Z.length = zy.zh Z := by rw [kr, ← zy.zj Z]; simp
  have hEf := xl Z
  have hEl : (zy.zh (Z ++ J)).length = Z.length + J.length := by rw [zy.zj, List.length_append]
  have hZl : Z.length ≤ (zy.zh (Z ++ J)).length := by omega
  generalize ocE (z1.zh (pre ++ zS f x :: rest.map (zS f))) = R at *
  obtain ⟨name, version, source, sums, dev, zC⟩ := x
  simp only at IH d1 hf2 hs2 hk2 hJ ⊢
  generalize ocE (z1.zh pre) = P at *
  generalize ocE (z1.zh rest) = B at *
  clear hb hxb hPl hn hp1 hp2 hp3
  simp only [zG] at IH ⊢
  have hq : (zy.zh (Z ++ J)).length = Z.length ∧ zy.zh (Z ++ J) = zy.zh Z ∨ ((zy.zh (Z ++ J)).length = Z.length) = False := by
   by_cases hq : (zy.zh (Z ++ J)).length = Z.length
   · refine .inl ⟨hq, ?_⟩
     rw [List.eq_nil_of_length_eq_zero (show J.length = 0 by omega), List.append_nil]
   · exact .inr (eq_false hq)
  generalize zy.zh (Z ++ J) = E0 at *
  generalize zy.zh Z = E1 at *
  generalize zy.zh sums = es1 at *
  generalize pre.length = kl at *
  rcases hf with rfl | rfl | rfl | rfl | rfl <;> rcases hq with ⟨hq, rfl⟩ | hq <;> simp only [Int.reduceBEq, Bool.or_false, Bool.or_true, Bool.false_or, cond_true, cond_false, show strs [] = [] from rfl] at IH
  all_goals
   refine zk Tryz.func10 rfl rfl ?_
   simp (maxSteps := 1000000) (disch := ((try simp only [LL]); omega)) only [↓GO, ↓DRW, GA, GX, ren, zo, za, refs, z8, cst, zr, isC, bin, una, z7, zd, blt, asArg, zg, zc, zf, z6, E.mkS, unN, ze, zq, zb, GS, simprocAttr, zD, zE, yT, yN, yP, yO, yU, gh1, yM, yA, yG, zR, mkO, yH, yB, y7, yS, zK, yL, yK, y9, oc, oTs, oT, zO, zO.rowTs, yF, isL, Bool.not_false, Bool.true_and, Bool.and_true, Bool.and_self, List.flatMap_append, List.map_append, List.set_cons_zero, List.set_cons_succ, GZ, c, c0, c00, if_true, Int.toNat_natCast, hg, hs, hf2, hs2, hk2, d1, hA1, hA2, hB1, hB2, hEf, hE, hq, hZl, false_and, if_false, and_self, bne, Bool.not_true, Bool.not_false, zn, zH, IH]
set_option maxHeartbeats 4000000 in
theorem US (f : Int) (tT : List (List T)) (nt : Nat) (cs : List z1) : ∀ (rest acc : List z1) (G : List (List V)) (cap : Option Nat), noR G → G.length + rest.length = cs.length → cs.length ≤ 1048576 → acc.length ≤ G.length → ∃ G' cap', noR G' ∧
 EV Tryz.prog pol (.loop 10 503786 0 [.ptr 0 0 0, .ptr 1 0 0, .ptr 2 0 0, .sl 3 0 acc.length cap, .sl 4 0 cs.length none, .t (.int .i64 (cs.length : Int)), .t (.int .i64 (G.length : Int))] [.vs 1 [[.t (.int .i64 f)]], .vs 2 [zG], .vs 2 [[.sl 5 0 nt none, .sl 4 0 cs.length none]], .vs 6 (ocE (z1.zh acc)), .vs 6 (G ++ ocE (z1.zh rest)), .ts 1 tT])
  = some (.loop (.exit 3) [.ptr 0 0 0, .ptr 1 0 0, .ptr 2 0 0, .sl 3 0 (wF acc rest).length cap'] [.vs 1 [[.t (.int .i64 f)]], .vs 2 [zG], .vs 2 [[.sl 4 0 nt none, .sl 5 0 cs.length none]], .vs 6 (ocE (z1.zh (wF acc rest))), .ts 1 tT, .vs 6 G'])
 | [], acc, G, cap, hG, hn, hM, hag => by
  have c : decide ((G.length : Int) < (cs.length : Int)) = false := by simp at hn; apply decide_eq_false; omega
  refine ⟨G, cap, hG, ?_⟩
  obtain ⟨h1, h2, _⟩ := hG
  obtain ⟨h3, h4, _⟩ := x8 acc
  rw [show ocE (z1.zh []) = [] from rfl, List.append_nil, wF]
  generalize ocE (z1.zh acc) = E0 at *
  generalize G.length = gl at *
  simp only [zG]
  refine zk Tryz.func10 rfl rfl ?_
  simp (disch := ((try simp only [LL]); omega)) only [↓GO, ↓DRW, GA, GX, ren, zo, za, refs, z8, cst, zr, isC, bin, una, z7, zd, blt, asArg, zg, zc, zf, z6, E.mkS, unN, ze, zq, zb, GS, simprocAttr, zD, zE, yT, yN, yP, yO, yU, gh1, yM, yA, yG, zR, mkO, yH, yB, y7, yS, zK, yL, yK, y9, oc, oTs, oT, zO, zO.rowTs, yF, isL, Bool.not_false, Bool.true_and, Bool.and_true, Bool.and_self, List.flatMap_append, List.map_append, List.set_cons_zero, List.set_cons_succ, GZ, c, h1, h2, h3, h4, zH]
 | x :: rest, acc, G, cap, hG, hn, hM, hag => by
  simp only [List.length_cons] at hn
  have c : decide ((G.length : Int) < (cs.length : Int)) = true := by apply decide_eq_true; omega
  have c0 : decide ((0 : Int) ≤ (G.length : Int)) = true := by apply decide_eq_true; omega
  have c00 : (0 : Int) ≤ (G.length : Int) := by omega
  have hgl : G.length ≤ 1048576 := by omega
  have d1 := gI 55 [.fp x.enc] (xW x) acc (by omega) (fun y _ => c_pj4 x y)
  have hAl : (ocE (z1.zh acc)).length = acc.length := by rw [zT, z1.zj]
  have hAt : (ocE (z1.zh acc)).take acc.length = ocE (z1.zh acc) := List.take_of_length_le (by omega)
  have hAf := ve acc
  have hsn := fun h => uf h (z1.zh acc)
  rw [dC, wF]
  obtain ⟨hA1, hA2, _⟩ := x8 acc
  obtain ⟨hB1, hB2, _⟩ := x8 rest
  have hg := fun y => xH G (ocE (z1.zh rest)) y G.length rfl
  have hs := fun y z => xt G (ocE (z1.zh rest)) y z G.length rfl
  have hf1 := xl x.sums
  have hf2 := yq x.zC
  have hs1 := zy.zj x.sums
  have hs2 := zi x.zC
  have hk1 : (zy.zh x.sums).take x.sums.length = zy.zh x.sums := List.take_of_length_le (by omega)
  have hk2 : (strs x.zC).take x.zC.length = strs x.zC := List.take_of_length_le (by omega)
  cases q : acc.any (xW x) with
  | true =>
   rw [q] at d1
   obtain ⟨G', cap', hG', IH⟩ := US f tT nt cs rest acc (G ++ [fgP x]) cap (xF hG (oy x)) (by simp; omega) hM (by simp; omega)
   rw [show ((G ++ [fgP x]).length : Int) = (G.length : Int) + 1 by simp, List.append_assoc, List.singleton_append] at IH
   refine ⟨G', cap', hG', ?_⟩
   rw [cond_true]
   obtain ⟨a0, y, rfl⟩ : ∃ a0 y, acc = a0 ++ [y] := by
    rcases w5 acc with rfl | ⟨a0, y, rfl⟩
    · cases q
    · exact ⟨a0, y, rfl⟩
   have hlast : (ocE (z1.zh (a0 ++ [y])))[(a0 ++ [y]).length - 1]? = some (y.enc.map oc) := by
    rw [wB]
    simp [zT, z1.zj, ocE, z1.zh]
   have hl0 : ((a0 ++ [y]).length = 0) = False := by simp
   obtain ⟨hG1, hG2, _⟩ := hG
   generalize ocE (z1.zh (wF (a0 ++ [y]) rest)) = R at *
   generalize (wF (a0 ++ [y]) rest).length = rl at *
   generalize ocE (z1.zh (a0 ++ [y])) = P at *
   generalize (a0 ++ [y]).length = al at *
   generalize ocE (z1.zh rest) = B at *
   obtain ⟨name, version, source, sums, dev, zC⟩ := x
   obtain ⟨name', version', source', sums', dev', needs'⟩ := y
   simp only [fgP, z1.enc, List.map_cons, List.map_nil, zG, oc] at d1 IH hf1 hf2 hs1 hs2 hk1 hk2 hlast ⊢
   generalize zy.zh sums = es1 at *
   generalize strs zC = es2 at *
   clear hn
   generalize G.length = gl at *
   refine zk Tryz.func10 rfl rfl ?_
   simp (maxSteps := 1000000) (disch := ((try simp only [LL]); omega)) only [↓GO, ↓DRW, GA, GX, ren, zo, za, refs, z8, cst, zr, isC, bin, una, z7, zd, blt, asArg, zg, zc, zf, z6, E.mkS, unN, ze, zq, zb, GS, simprocAttr, zD, zE, yT, yN, yP, yO, yU, gh1, yM, yA, yG, zR, mkO, yH, yB, y7, yS, zK, yL, yK, y9, oc, oTs, oT, zO, zO.rowTs, yF, isL, Bool.not_false, Bool.true_and, Bool.and_true, Bool.and_self, List.flatMap_append, List.map_append, List.set_cons_zero, List.set_cons_succ, GZ, c, c0, c00, if_true, if_false, Int.toNat_natCast, Nat.zero_add, hg, hs, hf1, hf2, hs1, hs2, hk1, hk2, d1, hA1, hA2, hB1, hB2, hG1, hG2, hAt, hAf, hlast, hl0, hsn, wx, Bool.not_true, zn, zH, IH]
  | false =>
   rw [q] at d1
   obtain ⟨G', cap', hG', IH⟩ := US f tT nt cs rest (acc ++ [x]) (G ++ [fgP x]) none (xF hG (oy x)) (by simp; omega) hM (by simp; omega)
   rw [show ((G ++ [fgP x]).length : Int) = (G.length : Int) + 1 by simp, List.append_assoc, List.singleton_append, wB, show ocE (z1.zh [x]) = [[V.t (.str x.name), .t (.str x.version), .t (.str x.source), .o (.list 2 (zy.zh x.sums)), .t (.bool x.dev), .o (.list 1 (strs x.zC))]] from rfl, List.length_append, List.length_singleton] at IH
   refine ⟨G', cap', hG', ?_⟩
   rw [cond_false]
   obtain ⟨hG1, hG2, _⟩ := hG
   have hlg := fun y => xH (ocE (z1.zh acc)) [] y acc.length hAl
   have hls := fun y z => xt (ocE (z1.zh acc)) [] y z acc.length hAl
   have hal1 : acc.length + 1 - 1 = acc.length := by omega
   have hal0 : (acc.length + 1 = 0) = False := by simp
   have hle : ∀ y : List V, (ocE (z1.zh acc) ++ [y]).length = acc.length + 1 := fun y => by simp [hAl]
   have haM : acc.length ≤ 1048576 := by omega
   generalize ocE (z1.zh (wF (acc ++ [x]) rest)) = R at *
   generalize (wF (acc ++ [x]) rest).length = rl at *
   generalize ocE (z1.zh acc) = P at *
   generalize acc.length = al at *
   generalize ocE (z1.zh rest) = B at *
   obtain ⟨name, version, source, sums, dev, zC⟩ := x
   simp only [fgP, z1.enc, List.map_cons, List.map_nil, zG] at d1 IH hf1 hf2 hs1 hs2 hk1 hk2 ⊢
   generalize zy.zh sums = es1 at *
   generalize strs zC = es2 at *
   clear hn hag
   generalize G.length = gl at *
   refine zk Tryz.func10 rfl rfl ?_
   simp (maxSteps := 1000000) (disch := ((try simp only [LL]); omega)) only [↓GO, ↓DRW, GA, GX, ren, zo, za, refs, z8, cst, zr, isC, bin, una, z7, zd, blt, asArg, zg, zc, zf, z6, E.mkS, unN, ze, zq, zb, GS, simprocAttr, zD, zE, yT, yN, yP, yO, yU, gh1, yM, yA, yG, zR, mkO, yH, yB, y7, yS, zK, yL, yK, y9, oc, oTs, oT, zO, zO.rowTs, yF, isL, Bool.not_false, Bool.true_and, Bool.and_true, Bool.and_self, List.flatMap_append, List.map_append, List.set_cons_zero, List.set_cons_succ, GZ, c, c0, c00, if_true, if_false, Int.toNat_natCast, Nat.zero_add, hg, hs, hf1, hf2, hs1, hs2, hk1, hk2, d1, hA1, hA2, hB1, hB2, hG1, hG2, hAt, hAf, hAl, hlg, hls, hal1, hal0, hle, hsn, wx, Bool.not_false, zn, zH, IH, xb]
end Go.Proofs.YtonbkdklidfmfaaGreatDoor
/- Project, the program's way. Conditions: those of each lemma. -/
namespace Go.Proofs.YtonbkdklidfmfaaGreatDoor
open E
set_option linter.unusedSimpArgs false
set_option linter.unusedVariables false
set_option maxRecDepth 100000
/-- what Project comes to -/
def v8 (f : Int) (g : zx) : zx := cond (vv f && ym g) (rL f g) g
def lL (top : List Str) (cs : List z1) (v : V) (hs : Heap) : Prop :=
 EV Tryz.prog pol (.callO false 45 [.agg [.t (.list 1 (strs top)), .t (.list 6 (z1.zh cs))]] []) = some (.call (.agg [.sl 0 0 top.length none, v]) (.ts 1 (strs top) :: hs))
theorem sP (top : List Str) (cs : List z1) (hkl : top.length ≤ 1048576) (hl : cs.length ≤ 1048576) (hb : ∀ c ∈ cs, c.zY ≤ 1048576) : (lL top cs (.nil 6) [] ∧ cs = []) ∨ lL top cs (.sl 1 0 cs.length none) [.vs 6 (ocE (z1.zh cs))] := by
 cases cs with
 | nil => exact .inl ⟨mL top hkl, rfl⟩
 | cons x r => exact .inr (nk top x r hkl hl hb)
theorem To (top : List Str) (cs : List z1) (hB : GB ⟨top, cs⟩) (ho : ym ⟨top, cs⟩ = true) :
 EV Tryz.prog pol (.callO false 25 [.agg [.t (.list 1 (strs top)), .t (.list 6 (z1.zh cs))]] []) = some (.call (.agg [.sl 0 0 top.length none, .sl 1 0 (xe (yb cs top) cs).length none]) [.ts 1 (strs top), .vs 6 (ocE (z1.zh (xe (yb cs top) cs)))]) := by
 cases cs with
 | nil => exact Yy top hB ho
 | cons x r => exact cr top x r hB ho
def PjI (f : Int) (g : zx) : Prop :=
 EV Tryz.prog pol (.callO false 10 [.t (.int .i64 f), .agg [.t (.list 1 (strs g.top)), .t (.list 6 (z1.zh g.packs))]] []) = some (.call (.agg [.sl 0 0 (v8 f g).top.length none, .sl 1 0 (v8 f g).packs.length none]) [.ts 1 (strs (v8 f g).top), .vs 6 (ocE (z1.zh (v8 f g).packs))])
set_option maxHeartbeats 4000000 in
theorem WJ (f : Int) (top : List Str) (cs : List z1) (hB : GB ⟨top, cs⟩) (h : (vv f && ym ⟨top, cs⟩) = false) : PjI f ⟨top, cs⟩ := by
 have hb := hB.len
 simp only at hb
 have hcp := sP top cs (by omega) (by omega) hb.2.2
 have d0 := wE f 0 4
 rw [show B2 f 0 4 = vv f from rfl] at d0
 have d1 := sW _ hB
 have e : v8 f ⟨top, cs⟩ = ⟨top, cs⟩ := by unfold v8; rw [h]; rfl
 unfold PjI
 rw [e]
 have hot : vd (ocE (z1.zh cs)) = some (z1.zh cs) := ug cs
 have hoc : (z1.zh cs).map (fun e => e.map oc) = ocE (z1.zh cs) := rfl
 simp only [zx.enc, List.map_cons, List.map_nil] at d1 ⊢
 clear hB hb e
 unfold lL at hcp
 cases q : vv f with
 | false =>
  rw [q] at d0
  rcases hcp with ⟨hcp, rfl⟩ | hcp
  all_goals
   try simp only [show z1.zh [] = [] from rfl, show ocE [] = [] from rfl, List.length_nil] at *
   refine zP Tryz.func10 rfl (by kernel_rfl) ?_
   unfold Tryz.f10
   simp (disch := ((try simp only [LL]); omega)) only [↓GO, ↓DRW, GA, GX, ren, zo, za, refs, z8, cst, zr, isC, bin, una, z7, zd, blt, asArg, zg, zc, zf, z6, E.mkS, unN, ze, zq, zb, GS, simprocAttr, zD, zE, yT, yN, yP, yO, yU, gh1, yM, yA, yG, zR, mkO, yH, yB, y7, yS, zK, yL, yK, y9, oc, oTs, oT, zO, zO.rowTs, yF, isL, Bool.not_false, Bool.true_and, Bool.and_true, Bool.and_self, List.flatMap_append, List.map_append, List.set_cons_zero, List.set_cons_succ, GZ, hcp, d0, hot, hoc, y6, zU, zT, z1.zj, List.drop_zero, Bool.not_false, vd, zH]
 | true =>
  rw [q, Bool.true_and] at h
  rw [q] at d0
  rw [h] at d1
  rcases hcp with ⟨hcp, rfl⟩ | hcp
  all_goals
   try simp only [show z1.zh [] = [] from rfl, show ocE [] = [] from rfl, List.length_nil] at *
   refine zP Tryz.func10 rfl (by kernel_rfl) ?_
   unfold Tryz.f10
   simp (disch := ((try simp only [LL]); omega)) only [↓GO, ↓DRW, GA, GX, ren, zo, za, refs, z8, cst, zr, isC, bin, una, z7, zd, blt, asArg, zg, zc, zf, z6, E.mkS, unN, ze, zq, zb, GS, simprocAttr, zD, zE, yT, yN, yP, yO, yU, gh1, yM, yA, yG, zR, mkO, yH, yB, y7, yS, zK, yL, yK, y9, oc, oTs, oT, zO, zO.rowTs, yF, isL, Bool.not_false, Bool.true_and, Bool.and_true, Bool.and_self, List.flatMap_append, List.map_append, List.set_cons_zero, List.set_cons_succ, GZ, hcp, d0, d1, hot, hoc, y6, zU, zT, z1.zj, List.drop_zero, false_and, if_false, Bool.not_false, Bool.not_true, vd, zH]
theorem Wr (p : z1 → Bool) (l : List z1) : (l.filter fun x => !(!p x)) = l.filter p := by
 congr 1
 funext x
 rw [Bool.not_not]
/-- a row that is longer than its slice, or as long -/
theorem rowX {Z : List z1} {J : List (List V)} : ((ocE (z1.zh Z) ++ J).length = Z.length ∧ ocE (z1.zh Z) ++ J = ocE (z1.zh Z)) ∨ ((ocE (z1.zh Z) ++ J).length = Z.length) = False := by
 by_cases hq : (ocE (z1.zh Z) ++ J).length = Z.length
 · refine .inl ⟨hq, ?_⟩
   rw [List.length_append, zT, z1.zj] at hq
   rw [List.eq_nil_of_length_eq_zero (show J.length = 0 by omega), List.append_nil]
 · exact .inr (eq_false hq)
theorem rowXs {Z J : List Str} : ((strs (Z ++ J)).length = Z.length ∧ strs (Z ++ J) = strs Z) ∨ ((strs (Z ++ J)).length = Z.length) = False := by
 by_cases hq : (strs (Z ++ J)).length = Z.length
 · refine .inl ⟨hq, ?_⟩
   rw [zi, List.length_append] at hq
   rw [List.eq_nil_of_length_eq_zero (show J.length = 0 by omega), List.append_nil]
 · exact .inr (eq_false hq)
theorem cf (ks : List Str) (cs : List z1) : (xe ks cs).length ≤ cs.length := List.length_filter_le _ _
theorem Yi (ks : List Str) (cs : List z1) : ∀ x ∈ xe ks cs, x ∈ cs := fun x hx => (List.mem_filter.1 hx).1
set_option maxHeartbeats 8000000 in
theorem dn (f : Int) (hf : f = 0 ∨ f = 1) (top : List Str) (cs : List z1) (hB : GB ⟨top, cs⟩) (ho : ym ⟨top, cs⟩ = true) : PjI f ⟨top, cs⟩ := by
 have hb := hB.len
 simp only at hb
 have hcp := sP top cs (by omega) (by omega) hb.2.2
 have hfo : u0 f := by unfold u0; omega
 have hfi : vv f = true := by rcases hf with rfl | rfl <;> rfl
 have d0 := wE f 0 4
 rw [show B2 f 0 4 = vv f from rfl, hfi] at d0
 have d1 := sW _ hB
 rw [ho] at d1
 have d2 := To top cs hB ho
 have e : v8 f ⟨top, cs⟩ = rL f ⟨top, cs⟩ := by unfold v8; rw [hfi, ho]; rfl
 unfold PjI
 rw [e]
 have hot := ug
 have hoc : ∀ l : List z1, (z1.zh l).map (fun e => e.map oc) = ocE (z1.zh l) := fun _ => rfl
 have L0 := ie 0 (.inl rfl) (strs top) top.length (xe (yb cs top) cs).length (xe (yb cs top) cs) [] (by simp) (by have := cf (yb cs top) cs; omega) fun x hx => hb.2.2 x (Yi _ _ x hx)
 have L1 := ie 1 (.inr (.inl rfl)) [] 0 cs.length cs [] (by simp) (by omega) hb.2.2
 simp only [List.length_nil, Int.natCast_zero, List.nil_append, show z1.zh [] = [] from rfl, show ocE [] = [] from rfl, zG] at L0 L1
 have f1 := yq top
 simp only [zx.enc, List.map_cons, List.map_nil] at d1 ⊢
 clear hB hb e hfi hfo
 unfold lL at hcp
 rcases hf with rfl | rfl
 · rw [show (rL 0 ⟨top, cs⟩) = ⟨top, (xe (yb cs top) cs).map (zS 0)⟩ from rfl]
   have hZl : ((xe (yb cs top) cs).map (zS 0)).length = (xe (yb cs top) cs).length := by simp
   rcases hcp with ⟨hcp, rfl⟩ | hcp
   all_goals
    generalize xe (yb _ top) _ = Z at *
    rw [hZl]
    generalize Z.map (zS 0) = Z' at *
    try simp only [show z1.zh [] = [] from rfl, show ocE [] = [] from rfl, List.length_nil] at hcp d1 d2 ⊢
    refine zP Tryz.func10 rfl (by kernel_rfl) ?_
    unfold Tryz.f10
    simp (maxSteps := 1000000) (disch := ((try simp only [LL]); omega)) only [↓GO, ↓DRW, GA, GX, ren, zo, za, refs, z8, cst, zr, isC, bin, una, z7, zd, blt, asArg, zg, zc, zf, z6, E.mkS, unN, ze, zq, zb, GS, simprocAttr, zD, zE, yT, yN, yP, yO, yU, gh1, yM, yA, yG, zR, mkO, yH, yB, y7, yS, zK, yL, yK, y9, oc, oTs, oT, zO, zO.rowTs, yF, isL, Bool.not_false, Bool.true_and, Bool.and_true, Bool.and_self, List.flatMap_append, List.map_append, List.set_cons_zero, List.set_cons_succ, GZ, hcp, d0, d1, d2, L0, hot, hoc, f1, zi, y6, zU, zT, z1.zj, List.drop_zero, false_and, if_false, Bool.not_false, Bool.not_true, vd, zH]
 · rw [show (rL 1 ⟨top, cs⟩) = ⟨[], cs.map (zS 1)⟩ from rfl]
   have hZl : (cs.map (zS 1)).length = cs.length := by simp
   rw [hZl]
   generalize cs.map (zS 1) = Z' at *
   clear hZl
   rcases hcp with ⟨hcp, rfl⟩ | hcp
   all_goals
    try simp only [show z1.zh [] = [] from rfl, show ocE [] = [] from rfl, show strs [] = [] from rfl, List.length_nil, Int.natCast_zero] at hcp d1 L1 ⊢
    refine zP Tryz.func10 rfl (by kernel_rfl) ?_
    unfold Tryz.f10
    simp (maxSteps := 1000000) (disch := ((try simp only [LL]); omega)) only [↓GO, ↓DRW, GA, GX, ren, zo, za, refs, z8, cst, zr, isC, bin, una, z7, zd, blt, asArg, zg, zc, zf, z6, E.mkS, unN, ze, zq, zb, GS, simprocAttr, zD, zE, yT, yN, yP, yO, yU, gh1, yM, yA, yG, zR, mkO, yH, yB, y7, yS, zK, yL, yK, y9, oc, oTs, oT, zO, zO.rowTs, yF, isL, Bool.not_false, Bool.true_and, Bool.and_true, Bool.and_self, List.flatMap_append, List.map_append, List.set_cons_zero, List.set_cons_succ, GZ, hcp, d0, d1, L1, hot, hoc, f1, zi, y6, zU, zT, z1.zj, List.drop_zero, false_and, if_false, Bool.not_false, Bool.not_true, vd, vJ, List.all_nil, bne, zH]
end Go.Proofs.YtonbkdklidfmfaaGreatDoor
/- Project at the formats that leave packs out, the program's way. Conditions: those of each lemma. -/
namespace Go.Proofs.YtonbkdklidfmfaaGreatDoor
open E
set_option linter.unusedSimpArgs false
set_option linter.unusedVariables false
set_option maxRecDepth 100000
theorem oQ (x : z1) : (xw x).zY ≤ x.zY := by
 have h9 : (xw x).zC.length + ya (xw x).zC ≤ x.zC.length + ya x.zC := qv _ x.zC
 have e1 : (xw x).name = x.name := rfl
 have e2 : (xw x).version = x.version := rfl
 have e3 : (xw x).source = x.source := rfl
 have e4 : (xw x).sums = x.sums := rfl
 unfold z1.zY
 rw [e1, e2, e3, e4]
 omega
set_option maxHeartbeats 8000000 in
theorem Sb (top : List Str) (cs : List z1) (hB : GB ⟨top, cs⟩) (ho : ym ⟨top, cs⟩ = true) : PjI 3 ⟨top, cs⟩ := by
 have hb := hB.len
 simp only at hb
 have hcp := sP top cs (by omega) (by omega) hb.2.2
 have d0 := wE 3 0 4
 rw [show B2 3 0 4 = true from rfl] at d0
 have d1 := sW _ hB
 rw [ho] at d1
 have e : v8 3 ⟨top, cs⟩ = ⟨[], (cs.filter (xk sH1)).map (zS 3)⟩ := by unfold v8; rw [ho]; rfl
 unfold PjI
 rw [e]
 obtain ⟨J, hJ, hJl, d2⟩ := UK 52 (fun x => !xk sH1 x) cs (by omega) (fun x hx => c_pj3 x (hb.2.2 x hx)) cs.length rfl none
 rw [Wr] at d2 hJl
 have L := ie 3 (.inr (.inr (.inr (.inl rfl)))) [] 0 (cs.filter (xk sH1)).length (cs.filter (xk sH1)) [] (by simp) (by have := List.length_filter_le (xk sH1) cs; omega) fun x hx => hb.2.2 x (List.mem_filter.1 hx).1
 have hZl : ((cs.filter (xk sH1)).map (zS 3)).length = (cs.filter (xk sH1)).length := by simp
 rw [hZl]
 rw [List.nil_append] at L
 generalize (cs.filter (xk sH1)).map (zS 3) = Z' at *
 have hot := ug
 have hoc : ∀ l : List z1, (z1.zh l).map (fun e => e.map oc) = ocE (z1.zh l) := fun _ => rfl
 have hpre := rowX (Z := cs.filter (xk sH1)) (J := J)
 have hzn : cs = [] → (cs.filter (xk sH1)) = [] := fun h => by rw [h]; rfl
 generalize cs.filter (xk sH1) = Z at *
 have htk : (ocE (z1.zh Z) ++ J).take Z.length = ocE (z1.zh Z) := by
  have : (ocE (z1.zh Z)).length = Z.length := by rw [zT, z1.zj]
  rw [← this]; simp
 have hle : Z.length ≤ (ocE (z1.zh Z) ++ J).length := by rw [List.length_append, zT, z1.zj]; omega
 obtain ⟨h1, h2, _⟩ := xF (x8 Z) hJ
 have f1 := yq top
 simp only [List.length_nil, Int.natCast_zero, List.nil_append, show z1.zh [] = [] from rfl, show ocE [] = [] from rfl, zG] at L
 simp only [zx.enc, List.map_cons, List.map_nil, show strs [] = [] from rfl, List.length_nil] at d1 ⊢
 clear hB hb e hJl hZl ho
 unfold lL at hcp
 rcases hpre with ⟨hq, hE⟩ | hq
 · rw [hE] at d2
   clear h1 h2 htk hle hq hE hJ
   rcases hcp with ⟨hcp, rfl⟩ | hcp
   · have := hzn rfl
     subst this
     try simp only [show z1.zh [] = [] from rfl, show ocE [] = [] from rfl, show strs [] = [] from rfl, List.length_nil, Int.natCast_zero] at hcp d1 d2 L ⊢
     refine zP Tryz.func10 rfl (by kernel_rfl) ?_
     unfold Tryz.f10
     simp (maxSteps := 1000000) (disch := ((try simp only [LL]); omega)) only [↓GO, ↓DRW, GA, GX, ren, zo, za, refs, z8, cst, zr, isC, bin, una, z7, zd, blt, asArg, zg, zc, zf, z6, E.mkS, unN, ze, zq, zb, GS, simprocAttr, zD, zE, yT, yN, yP, yO, yU, gh1, yM, yA, yG, zR, mkO, yH, yB, y7, yS, zK, yL, yK, y9, oc, oTs, oT, zO, zO.rowTs, yF, isL, Bool.not_false, Bool.true_and, Bool.and_true, Bool.and_self, List.flatMap_append, List.map_append, List.set_cons_zero, List.set_cons_succ, GZ, hcp, d0, d1, d2, L, hot, hoc, f1, zi, y6, zU, zT, z1.zj, List.drop_zero, false_and, if_false, Bool.not_false, Bool.not_true, vd, vJ, List.all_nil, bne, zH]
   · refine zP Tryz.func10 rfl (by kernel_rfl) ?_
     unfold Tryz.f10
     simp (maxSteps := 1000000) (disch := ((try simp only [LL]); omega)) only [↓GO, ↓DRW, GA, GX, ren, zo, za, refs, z8, cst, zr, isC, bin, una, z7, zd, blt, asArg, zg, zc, zf, z6, E.mkS, unN, ze, zq, zb, GS, simprocAttr, zD, zE, yT, yN, yP, yO, yU, gh1, yM, yA, yG, zR, mkO, yH, yB, y7, yS, zK, yL, yK, y9, oc, oTs, oT, zO, zO.rowTs, yF, isL, Bool.not_false, Bool.true_and, Bool.and_true, Bool.and_self, List.flatMap_append, List.map_append, List.set_cons_zero, List.set_cons_succ, GZ, hcp, d0, d1, d2, L, hot, hoc, f1, zi, y6, zU, zT, z1.zj, List.drop_zero, false_and, if_false, Bool.not_false, Bool.not_true, vd, vJ, List.all_nil, bne, zH]
 · have hot' : vd (ocE (z1.zh Z)) = some (z1.zh Z) := hot Z
   generalize ocE (z1.zh Z) ++ J = E1 at *
   rcases hcp with ⟨hcp, rfl⟩ | hcp
   · have := hzn rfl
     subst this
     try simp only [show z1.zh [] = [] from rfl, show ocE [] = [] from rfl, show strs [] = [] from rfl, List.length_nil, Int.natCast_zero] at hcp d1 d2 L htk hq hle hot' ⊢
     refine zP Tryz.func10 rfl (by kernel_rfl) ?_
     unfold Tryz.f10
     simp (maxSteps := 1000000) (disch := ((try simp only [LL]); omega)) only [↓GO, ↓DRW, GA, GX, ren, zo, za, refs, z8, cst, zr, isC, bin, una, z7, zd, blt, asArg, zg, zc, zf, z6, E.mkS, unN, ze, zq, zb, GS, simprocAttr, zD, zE, yT, yN, yP, yO, yU, gh1, yM, yA, yG, zR, mkO, yH, yB, y7, yS, zK, yL, yK, y9, oc, oTs, oT, zO, zO.rowTs, yF, isL, Bool.not_false, Bool.true_and, Bool.and_true, Bool.and_self, List.flatMap_append, List.map_append, List.set_cons_zero, List.set_cons_succ, GZ, hcp, d0, d1, d2, L, hq, htk, hle, h1, h2, hot', hot, hoc, f1, zi, y6, zU, zT, z1.zj, List.drop_zero, false_and, if_false, Bool.not_false, Bool.not_true, vd, vJ, List.all_nil, bne, zH]
   · refine zP Tryz.func10 rfl (by kernel_rfl) ?_
     unfold Tryz.f10
     simp (maxSteps := 1000000) (disch := ((try simp only [LL]); omega)) only [↓GO, ↓DRW, GA, GX, ren, zo, za, refs, z8, cst, zr, isC, bin, una, z7, zd, blt, asArg, zg, zc, zf, z6, E.mkS, unN, ze, zq, zb, GS, simprocAttr, zD, zE, yT, yN, yP, yO, yU, gh1, yM, yA, yG, zR, mkO, yH, yB, y7, yS, zK, yL, yK, y9, oc, oTs, oT, zO, zO.rowTs, yF, isL, Bool.not_false, Bool.true_and, Bool.and_true, Bool.and_self, List.flatMap_append, List.map_append, List.set_cons_zero, List.set_cons_succ, GZ, hcp, d0, d1, d2, L, hq, htk, hle, h1, h2, hot', hot, hoc, f1, zi, y6, zU, zT, z1.zj, List.drop_zero, false_and, if_false, Bool.not_false, Bool.not_true, vd, vJ, List.all_nil, bne, zH]
set_option maxHeartbeats 8000000 in
theorem Sa (top : List Str) (cs : List z1) (hB : GB ⟨top, cs⟩) (ho : ym ⟨top, cs⟩ = true) : PjI 4 ⟨top, cs⟩ := by
 have hb := hB.len
 simp only at hb
 have hcp := sP top cs (by omega) (by omega) hb.2.2
 have d0 := wE 4 0 4
 rw [show B2 4 0 4 = true from rfl] at d0
 have d1 := sW _ hB
 rw [ho] at d1
 have e : v8 4 ⟨top, cs⟩ = ⟨[], (wF [] cs).map (zS 4)⟩ := by unfold v8; rw [ho]; rfl
 unfold PjI
 rw [e]
 obtain ⟨G', cap', hG', L4⟩ := US 4 (strs top) top.length cs cs [] [] (some 0) pC (by simp) (by omega) (Nat.le_refl _)
 have hdl : ∀ r acc : List z1, (wF acc r).length ≤ acc.length + r.length := fun r => by
  induction r with
  | nil => intro acc; rw [wF]; simp
  | cons p r ih =>
   intro acc
   rw [wF]
   cases acc.any (xW p) with
   | true => have := ih acc; rw [cond_true]; simp; omega
   | false => have := ih (acc ++ [p]); rw [cond_false]; simp at this ⊢; omega
 have hdl' := hdl cs []
 have hdi : ∀ x ∈ wF [] cs, x ∈ cs := fun x hx => by
  have key : ∀ (r acc : List z1) (x : z1), x ∈ wF acc r → x ∈ acc ∨ x ∈ r := fun r => by
   induction r with
   | nil => intro acc x h; rw [wF] at h; exact .inl h
   | cons p r ih =>
    intro acc x h
    rw [wF] at h
    cases hc : acc.any (xW p) with
    | true => rw [hc, cond_true] at h; rcases ih acc x h with h | h; exact .inl h; exact .inr (by simp [h])
    | false =>
     rw [hc, cond_false] at h
     rcases ih _ x h with h | h
     · rcases List.mem_append.1 h with h | h
       · exact .inl h
       · exact .inr (by simp at h; simp [h])
     · exact .inr (by simp [h])
  rcases key cs [] x hx with h | h
  · cases h
  · exact h
 have L := ie 4 (.inr (.inr (.inr (.inr rfl)))) [] 0 (wF [] cs).length (wF [] cs) [] (by simp) (by simp at hdl'; omega) fun x hx => hb.2.2 x (hdi x hx)
 have hZl : ((wF [] cs).map (zS 4)).length = (wF [] cs).length := by simp
 rw [hZl]
 rw [List.nil_append] at L
 generalize (wF [] cs).map (zS 4) = Z' at *
 generalize wF [] cs = Z at *
 have hot := ug
 have hoc : ∀ l : List z1, (z1.zh l).map (fun e => e.map oc) = ocE (z1.zh l) := fun _ => rfl
 obtain ⟨h1, h2, _⟩ := hG'
 have f1 := yq top
 simp only [List.length_nil, Int.natCast_zero, List.nil_append, show z1.zh [] = [] from rfl, show ocE [] = [] from rfl, zG] at L L4
 simp only [zx.enc, List.map_cons, List.map_nil, show strs [] = [] from rfl, List.length_nil] at d1 ⊢
 clear hB hb e hZl ho hdl hdl' hdi
 unfold lL at hcp
 rcases hcp with ⟨hcp, rfl⟩ | hcp
 all_goals
  try simp only [show z1.zh [] = [] from rfl, show ocE [] = [] from rfl, show strs [] = [] from rfl, List.length_nil, Int.natCast_zero] at hcp d1 L4 L ⊢
  refine zP Tryz.func10 rfl (by kernel_rfl) ?_
  unfold Tryz.f10
  simp (maxSteps := 1000000) (disch := ((try simp only [LL]); omega)) only [↓GO, ↓DRW, GA, GX, ren, zo, za, refs, z8, cst, zr, isC, bin, una, z7, zd, blt, asArg, zg, zc, zf, z6, E.mkS, unN, ze, zq, zb, GS, simprocAttr, zD, zE, yT, yN, yP, yO, yU, gh1, yM, yA, yG, zR, mkO, yH, yB, y7, yS, zK, yL, yK, y9, oc, oTs, oT, zO, zO.rowTs, yF, isL, Bool.not_false, Bool.true_and, Bool.and_true, Bool.and_self, List.flatMap_append, List.map_append, List.set_cons_zero, List.set_cons_succ, GZ, hcp, d0, d1, L4, L, h1, h2, hot, hoc, f1, zi, y6, zU, zT, z1.zj, List.drop_zero, false_and, if_false, Bool.not_false, Bool.not_true, vd, vJ, List.all_nil, bne, zH]
set_option maxHeartbeats 16000000 in
theorem Sc (top : List Str) (cs : List z1) (hB : GB ⟨top, cs⟩) (ho : ym ⟨top, cs⟩ = true) : PjI 2 ⟨top, cs⟩ := by
 have hb := hB.len
 simp only at hb
 have hcp := sP top cs (by omega) (by omega) hb.2.2
 have d0 := wE 2 0 4
 rw [show B2 2 0 4 = true from rfl] at d0
 have d1 := sW _ hB
 rw [ho] at d1
 have e : v8 2 ⟨top, cs⟩ = ⟨top.filter fun k => !rootKey k, ((cs.filter fun p => !(p.name == xi)).map xw).map (zS 2)⟩ := by unfold v8; rw [ho]; rfl
 unfold PjI
 rw [e]
 obtain ⟨Jt, hJt, d2⟩ := UJ 47 rootKey top (by omega) (fun k hk => R8 k (by have h9 := qB hk; have h8 := hB; unfold GB zx.zY at h8; simp only at h8; omega)) none top.length rfl
 obtain ⟨J, hJ, hJl, d3⟩ := UK 51 (fun x => x.name == xi) cs (by omega) (fun x hx => c_pj2 x) cs.length rfl none
 have hfl := List.length_filter_le (fun p : z1 => !(p.name == xi)) cs
 have hnb : ∀ x : z1, x.zY ≤ 1048576 → (xw x).zY ≤ 1048576 := fun x hx => by
  exact Nat.le_trans (oQ x) hx
 have LN := SS 2 (strs (top.filter fun k => !rootKey k)) (top.filter fun k => !rootKey k).length (cs.filter fun p => !(p.name == xi)).length (cs.filter fun p => !(p.name == xi)) [] (by simp) (by omega) fun x hx => hb.2.2 x (List.mem_filter.1 hx).1
 have L := ie 2 (.inr (.inr (.inl rfl))) (strs (top.filter fun k => !rootKey k)) (top.filter fun k => !rootKey k).length (cs.filter fun p => !(p.name == xi)).length ((cs.filter fun p => !(p.name == xi)).map xw) [] (by simp) (by omega) fun x hx => by
  obtain ⟨y, hy, rfl⟩ := List.mem_map.1 hx
  exact hnb y (hb.2.2 y (List.mem_filter.1 hy).1)
 have hZl : (((cs.filter fun p => !(p.name == xi)).map xw).map (zS 2)).length = (cs.filter fun p => !(p.name == xi)).length := by simp
 rw [hZl]
 rw [List.nil_append] at L LN
 generalize ((cs.filter fun p => !(p.name == xi)).map xw).map (zS 2) = Z' at *
 have hZn : ((cs.filter fun p => !(p.name == xi)).map xw).length = (cs.filter fun p => !(p.name == xi)).length := by simp
 generalize (cs.filter fun p => !(p.name == xi)).map xw = Zn at *
 have hot := ug
 have hoc : ∀ l : List z1, (z1.zh l).map (fun e => e.map oc) = ocE (z1.zh l) := fun _ => rfl
 have hpre := rowX (Z := cs.filter fun p => !(p.name == xi)) (J := J)
 have hprs := rowXs (Z := top.filter fun k => !rootKey k) (J := Jt)
 have hzn : cs = [] → (cs.filter fun p => !(p.name == xi)) = [] := fun h => by rw [h]; rfl
 generalize (cs.filter fun p => !(p.name == xi)) = Z at *
 generalize (top.filter fun k => !rootKey k) = Zt at *
 have htk : (ocE (z1.zh Z) ++ J).take Z.length = ocE (z1.zh Z) := by
  have : (ocE (z1.zh Z)).length = Z.length := by rw [zT, z1.zj]
  rw [← this]; simp
 have hle : Z.length ≤ (ocE (z1.zh Z) ++ J).length := by rw [List.length_append, zT, z1.zj]; omega
 have htk2 : (strs (Zt ++ Jt)).take Zt.length = strs Zt := by rw [show strs (Zt ++ Jt) = strs Zt ++ strs Jt by simp [strs], ← zi Zt]; simp
 have hle2 : Zt.length ≤ (strs (Zt ++ Jt)).length := by rw [zi, List.length_append]; omega
 obtain ⟨h1, h2, _⟩ := xF (x8 Z) hJ
 have f1 := yq top
 have f2 := yq Zt
 have f3 := yq (Zt ++ Jt)
 simp only [List.length_nil, Int.natCast_zero, List.nil_append, show z1.zh [] = [] from rfl, show ocE [] = [] from rfl, zG] at L LN
 simp only [zx.enc, List.map_cons, List.map_nil, show strs [] = [] from rfl, List.length_nil] at d1 ⊢
 clear hB hb e hJl hZl ho hnb hfl hJt
 unfold lL at hcp
 have hzl2 := zi Zt
 have hE1 : (ocE (z1.zh Z) ++ J).length = Z.length ∧ ocE (z1.zh Z) ++ J = ocE (z1.zh Z) → ∃ Y, Y = ocE (z1.zh Z) := fun _ => ⟨_, rfl⟩
 clear hE1
 have hot' : vd (ocE (z1.zh Z)) = some (z1.zh Z) := hot Z
 have hol : (ocE (z1.zh Z)).length = Z.length := by rw [zT, z1.zj]
 rcases hpre with ⟨hq, hE⟩ | hq <;> rcases hprs with ⟨hq2, hE2⟩ | hq2
 · rw [hE] at d3
   rw [hE2] at d2
   rcases hcp with ⟨hcp, rfl⟩ | hcp
   · have := hzn rfl
     subst this
     obtain rfl : Zn = [] := List.eq_nil_of_length_eq_zero (by simpa using hZn)
     try simp only [show z1.zh [] = [] from rfl, show ocE [] = [] from rfl, List.length_nil, Int.natCast_zero] at hcp d1 d3 L LN ⊢
     refine zP Tryz.func10 rfl (by kernel_rfl) ?_
     unfold Tryz.f10
     simp (maxSteps := 1000000) (disch := ((try simp only [LL]); omega)) only [↓GO, ↓DRW, GA, GX, ren, zo, za, refs, z8, cst, zr, isC, bin, una, z7, zd, blt, asArg, zg, zc, zf, z6, E.mkS, unN, ze, zq, zb, GS, simprocAttr, zD, zE, yT, yN, yP, yO, yU, gh1, yM, yA, yG, zR, mkO, yH, yB, y7, yS, zK, yL, yK, y9, oc, oTs, oT, zO, zO.rowTs, yF, isL, Bool.not_false, Bool.true_and, Bool.and_true, Bool.and_self, List.flatMap_append, List.map_append, List.set_cons_zero, List.set_cons_succ, GZ, hcp, d0, d1, d2, d3, LN, L, hot, hoc, f1, f2, hzl2, zi, y6, zU, zT, z1.zj, List.drop_zero, false_and, if_false, Bool.not_false, Bool.not_true, vd, bne, zH]
   · refine zP Tryz.func10 rfl (by kernel_rfl) ?_
     unfold Tryz.f10
     simp (maxSteps := 1000000) (disch := ((try simp only [LL]); omega)) only [↓GO, ↓DRW, GA, GX, ren, zo, za, refs, z8, cst, zr, isC, bin, una, z7, zd, blt, asArg, zg, zc, zf, z6, E.mkS, unN, ze, zq, zb, GS, simprocAttr, zD, zE, yT, yN, yP, yO, yU, gh1, yM, yA, yG, zR, mkO, yH, yB, y7, yS, zK, yL, yK, y9, oc, oTs, oT, zO, zO.rowTs, yF, isL, Bool.not_false, Bool.true_and, Bool.and_true, Bool.and_self, List.flatMap_append, List.map_append, List.set_cons_zero, List.set_cons_succ, GZ, hcp, d0, d1, d2, d3, LN, L, hZn, hot, hoc, f1, f2, hzl2, zi, y6, zU, zT, z1.zj, List.drop_zero, false_and, if_false, Bool.not_false, Bool.not_true, vd, bne, zH]
 · rw [hE] at d3
   generalize strs (Zt ++ Jt) = E2 at *
   rcases hcp with ⟨hcp, rfl⟩ | hcp
   · have := hzn rfl
     subst this
     obtain rfl : Zn = [] := List.eq_nil_of_length_eq_zero (by simpa using hZn)
     try simp only [show z1.zh [] = [] from rfl, show ocE [] = [] from rfl, List.length_nil, Int.natCast_zero] at hcp d1 d3 L LN ⊢
     refine zP Tryz.func10 rfl (by kernel_rfl) ?_
     unfold Tryz.f10
     simp (maxSteps := 1000000) (disch := ((try simp only [LL]); omega)) only [↓GO, ↓DRW, GA, GX, ren, zo, za, refs, z8, cst, zr, isC, bin, una, z7, zd, blt, asArg, zg, zc, zf, z6, E.mkS, unN, ze, zq, zb, GS, simprocAttr, zD, zE, yT, yN, yP, yO, yU, gh1, yM, yA, yG, zR, mkO, yH, yB, y7, yS, zK, yL, yK, y9, oc, oTs, oT, zO, zO.rowTs, yF, isL, Bool.not_false, Bool.true_and, Bool.and_true, Bool.and_self, List.flatMap_append, List.map_append, List.set_cons_zero, List.set_cons_succ, GZ, hcp, d0, d1, d2, d3, LN, L, hq2, htk2, hle2, hot, hoc, f1, f2, f3, hzl2, zi, y6, zU, zT, z1.zj, List.drop_zero, false_and, if_false, Bool.not_false, Bool.not_true, vd, bne, zH]
   · refine zP Tryz.func10 rfl (by kernel_rfl) ?_
     unfold Tryz.f10
     simp (maxSteps := 1000000) (disch := ((try simp only [LL]); omega)) only [↓GO, ↓DRW, GA, GX, ren, zo, za, refs, z8, cst, zr, isC, bin, una, z7, zd, blt, asArg, zg, zc, zf, z6, E.mkS, unN, ze, zq, zb, GS, simprocAttr, zD, zE, yT, yN, yP, yO, yU, gh1, yM, yA, yG, zR, mkO, yH, yB, y7, yS, zK, yL, yK, y9, oc, oTs, oT, zO, zO.rowTs, yF, isL, Bool.not_false, Bool.true_and, Bool.and_true, Bool.and_self, List.flatMap_append, List.map_append, List.set_cons_zero, List.set_cons_succ, GZ, hcp, d0, d1, d2, d3, LN, L, hZn, hq2, htk2, hle2, hot, hoc, f1, f2, f3, hzl2, zi, y6, zU, zT, z1.zj, List.drop_zero, false_and, if_false, Bool.not_false, Bool.not_true, vd, bne, zH]
 · rw [hE2] at d2
   generalize ocE (z1.zh Z) ++ J = E1 at *
   rcases hcp with ⟨hcp, rfl⟩ | hcp
   · have := hzn rfl
     subst this
     obtain rfl : Zn = [] := List.eq_nil_of_length_eq_zero (by simpa using hZn)
     try simp only [show z1.zh [] = [] from rfl, show ocE [] = [] from rfl, List.length_nil, Int.natCast_zero] at hcp d1 d3 L LN htk hq hle hot' ⊢
     refine zP Tryz.func10 rfl (by kernel_rfl) ?_
     unfold Tryz.f10
     simp (maxSteps := 1000000) (disch := ((try simp only [LL]); omega)) only [↓GO, ↓DRW, GA, GX, ren, zo, za, refs, z8, cst, zr, isC, bin, una, z7, zd, blt, asArg, zg, zc, zf, z6, E.mkS, unN, ze, zq, zb, GS, simprocAttr, zD, zE, yT, yN, yP, yO, yU, gh1, yM, yA, yG, zR, mkO, yH, yB, y7, yS, zK, yL, yK, y9, oc, oTs, oT, zO, zO.rowTs, yF, isL, Bool.not_false, Bool.true_and, Bool.and_true, Bool.and_self, List.flatMap_append, List.map_append, List.set_cons_zero, List.set_cons_succ, GZ, hcp, d0, d1, d2, d3, LN, L, hq, htk, hle, h1, h2, hot', hot, hoc, f1, f2, hzl2, zi, y6, zU, zT, z1.zj, List.drop_zero, false_and, if_false, Bool.not_false, Bool.not_true, vd, bne, zH]
   · refine zP Tryz.func10 rfl (by kernel_rfl) ?_
     unfold Tryz.f10
     simp (maxSteps := 1000000) (disch := ((try simp only [LL]); omega)) only [↓GO, ↓DRW, GA, GX, ren, zo, za, refs, z8, cst, zr, isC, bin, una, z7, zd, blt, asArg, zg, zc, zf, z6, E.mkS, unN, ze, zq, zb, GS, simprocAttr, zD, zE, yT, yN, yP, yO, yU, gh1, yM, yA, yG, zR, mkO, yH, yB, y7, yS, zK, yL, yK, y9, oc, oTs, oT, zO, zO.rowTs, yF, isL, Bool.not_false, Bool.true_and, Bool.and_true, Bool.and_self, List.flatMap_append, List.map_append, List.set_cons_zero, List.set_cons_succ, GZ, hcp, d0, d1, d2, d3, LN, L, hZn, hq, htk, hle, h1, h2, hot', hot, hoc, f1, f2, hzl2, zi, y6, zU, zT, z1.zj, List.drop_zero, false_and, if_false, Bool.not_false, Bool.not_true, vd, bne, zH]
 · generalize ocE (z1.zh Z) ++ J = E1 at *
   generalize strs (Zt ++ Jt) = E2 at *
   rcases hcp with ⟨hcp, rfl⟩ | hcp
   · have := hzn rfl
     subst this
     obtain rfl : Zn = [] := List.eq_nil_of_length_eq_zero (by simpa using hZn)
     try simp only [show z1.zh [] = [] from rfl, show ocE [] = [] from rfl, List.length_nil, Int.natCast_zero] at hcp d1 d3 L LN htk hq hle hot' ⊢
     refine zP Tryz.func10 rfl (by kernel_rfl) ?_
     unfold Tryz.f10
     simp (maxSteps := 1000000) (disch := ((try simp only [LL]); omega)) only [↓GO, ↓DRW, GA, GX, ren, zo, za, refs, z8, cst, zr, isC, bin, una, z7, zd, blt, asArg, zg, zc, zf, z6, E.mkS, unN, ze, zq, zb, GS, simprocAttr, zD, zE, yT, yN, yP, yO, yU, gh1, yM, yA, yG, zR, mkO, yH, yB, y7, yS, zK, yL, yK, y9, oc, oTs, oT, zO, zO.rowTs, yF, isL, Bool.not_false, Bool.true_and, Bool.and_true, Bool.and_self, List.flatMap_append, List.map_append, List.set_cons_zero, List.set_cons_succ, GZ, hcp, d0, d1, d2, d3, LN, L, hq, htk, hle, hq2, htk2, hle2, h1, h2, hot', hot, hoc, f1, f2, f3, hzl2, zi, y6, zU, zT, z1.zj, List.drop_zero, false_and, if_false, Bool.not_false, Bool.not_true, vd, bne, zH]
   · refine zP Tryz.func10 rfl (by kernel_rfl) ?_
     unfold Tryz.f10
     simp (maxSteps := 1000000) (disch := ((try simp only [LL]); omega)) only [↓GO, ↓DRW, GA, GX, ren, zo, za, refs, z8, cst, zr, isC, bin, una, z7, zd, blt, asArg, zg, zc, zf, z6, E.mkS, unN, ze, zq, zb, GS, simprocAttr, zD, zE, yT, yN, yP, yO, yU, gh1, yM, yA, yG, zR, mkO, yH, yB, y7, yS, zK, yL, yK, y9, oc, oTs, oT, zO, zO.rowTs, yF, isL, Bool.not_false, Bool.true_and, Bool.and_true, Bool.and_self, List.flatMap_append, List.map_append, List.set_cons_zero, List.set_cons_succ, GZ, hcp, d0, d1, d2, d3, LN, L, hZn, hq, htk, hle, hq2, htk2, hle2, h1, h2, hot', hot, hoc, f1, f2, f3, hzl2, zi, y6, zU, zT, z1.zj, List.drop_zero, false_and, if_false, Bool.not_false, Bool.not_true, vd, bne, zH]
theorem c_pjI (f : Int) (g : zx) (hB : GB g) : PjI f g := by
 obtain ⟨top, cs⟩ := g
 cases q : vv f && ym ⟨top, cs⟩ with
 | false => exact WJ f top cs hB q
 | true =>
  rw [Bool.and_eq_true] at q
  rcases pt q.1 with rfl | rfl | rfl | rfl | rfl
  · exact dn 0 (.inl rfl) top cs hB q.2
  · exact dn 1 (.inr rfl) top cs hB q.2
  · exact Sc top cs hB q.2
  · exact Sb top cs hB q.2
  · exact Sa top cs hB q.2
end Go.Proofs.YtonbkdklidfmfaaGreatDoor
/- What a format loses of a graph, plain: both ways come to the same. Conditions: none. -/
namespace Go.Proofs.YtonbkdklidfmfaaGreatDoor
open E
set_option linter.unusedVariables false
set_option linter.unusedSimpArgs false
set_option maxRecDepth 100000
/-- what is kept of a pack has a part of its sums and of its needs -/
def Part (p q : z1) : Prop := (∃ f, q.sums = p.sums.filter f) ∧ ∃ f, q.zC = p.zC.filter f
theorem Part.refl (p : z1) : Part p p := ⟨⟨fun _ => true, (List.filter_eq_self.2 fun _ _ => rfl).symm⟩, fun _ => true, (List.filter_eq_self.2 fun _ _ => rfl).symm⟩
theorem Part.zS (f : Int) (p : z1) : Part p (zS f p) := by
 refine ⟨⟨xo f, rfl⟩, ?_⟩
 show ∃ k, cond (f == 3 || f == 4) [] p.zC = p.zC.filter k
 cases (f == 3 || f == 4) with
 | true => exact ⟨fun _ => false, (List.filter_eq_nil_iff.2 fun _ _ => by decide).symm⟩
 | false => exact ⟨fun _ => true, (List.filter_eq_self.2 fun _ _ => rfl).symm⟩
end Go.Proofs.YtonbkdklidfmfaaGreatDoor
/- Lossy by both. Conditions: those of each lemma. -/
namespace Go.Proofs.YtonbkdklidfmfaaGreatDoor
open E
set_option linter.unusedSimpArgs false
set_option linter.unusedVariables false
set_option maxRecDepth 100000
theorem Tl (f : Int) (g : zx) (hB : GB g) : GB (v8 f g) := by
 have hfl : ∀ (q : zy → Bool) (l : List zy), (l.filter q).length ≤ l.length ∧ zy.zJ (l.filter q) ≤ zy.zJ l := qu
 have hnr := oQ
 have hmap : ∀ (w : z1 → z1) (hw : ∀ x, (w x).zY ≤ x.zY) (l : List z1), (l.map w).length = l.length ∧ z1.zJ (l.map w) ≤ z1.zJ l := fun w hw l => by
  induction l with
  | nil => simp
  | cons a r ih =>
   have := hw a
   simp only [List.map_cons, List.length_cons, z1.zJ]
   omega
 have hfil : ∀ (q : z1 → Bool) (l : List z1), (l.filter q).length ≤ l.length ∧ z1.zJ (l.filter q) ≤ z1.zJ l := fun q l => by
  induction l with
  | nil => simp
  | cons a r ih =>
   rw [List.filter_cons]
   cases q a <;> simp only [Bool.false_eq_true, if_true, if_false, List.length_cons, z1.zJ] <;> omega
 have happ : ∀ (l : List z1) (p : z1), z1.zJ (l ++ [p]) = z1.zJ l + p.zY := fun l p => by
  induction l with
  | nil => simp [z1.zJ]
  | cons a r ih => simp only [List.cons_append, z1.zJ, ih]; omega
 have hded : ∀ (l acc : List z1), (wF acc l).length ≤ acc.length + l.length ∧ z1.zJ (wF acc l) ≤ z1.zJ acc + z1.zJ l := fun l => by
  induction l with
  | nil => intro acc; rw [wF]; simp
  | cons p r ih =>
   intro acc
   rw [wF]
   cases acc.any (xW p) with
   | true => have := ih acc; rw [cond_true]; simp only [List.length_cons, z1.zJ]; omega
   | false => have := ih (acc ++ [p]); rw [happ] at this; rw [cond_false]; simp only [List.length_append, List.length_cons, List.length_nil, z1.zJ] at this ⊢; omega
 unfold v8
 cases vv f && ym g with
 | false => exact hB
 | true =>
  rw [cond_true]
  unfold GB zx.zY at hB ⊢
  unfold rL
  have h1 : (T3 f g).length ≤ g.packs.length ∧ z1.zJ (T3 f g) ≤ z1.zJ g.packs := by
   unfold T3
   cases f == 0 <;> simp only [cond_true, cond_false]
   · cases f == 2 <;> simp only [cond_true, cond_false]
     · cases f == 3 <;> simp only [cond_true, cond_false]
       · cases f == 4 <;> simp only [cond_true, cond_false]
         · exact ⟨Nat.le_refl _, Nat.le_refl _⟩
         · have := hded g.packs []; simpa [z1.zJ] using this
       · exact hfil _ _
     · have h2 := hfil (fun p => !(p.name == xi)) g.packs
       have h3 := hmap xw hnr (g.packs.filter fun p => !(p.name == xi))
       omega
   · exact hfil _ _
  have h4 := hmap (zS f) (tL f) (T3 f g)
  have h5 : (SD f g).length + ya (SD f g) ≤ g.top.length + ya g.top := by
   unfold SD
   cases f == 0 <;> simp only [cond_true, cond_false]
   · cases f == 2 <;> simp only [cond_true, cond_false]
     · simp [ya]
     · exact qv _ g.top
   · exact Nat.le_refl _
  simp only
  omega
theorem topI_eq (a b : List Str) : (a == b) = (b == a) := by
 cases h : (b == a) with
 | true => rw [eq_of_beq h]; simp
 | false => rw [beq_eq_false_iff_ne] at h ⊢; exact fun e => h e.symm
theorem Tp (f : Int) (g : zx) (hB : GB g) : zm (EV Tryz.prog pol) 8 [.t (.int .i64 f), .agg (g.enc.map .t)] = some (.agg ((v8 f g).enc.map .t)) := by
 unfold v8
 cases q : vv f && ym g with
 | false => exact WI f g hB q
 | true =>
  rw [Bool.and_eq_true] at q
  rw [cond_true, ← Y9 f (pt q.1) g q.2]
  exact c_pjR f q.1 g hB q.2
end Go.Proofs.YtonbkdklidfmfaaGreatDoor
/- The law of Project. Conditions: those of each lemma. -/
namespace Go.Proofs.YtonbkdklidfmfaaGreatDoor
open E
set_option linter.unusedSimpArgs false
set_option linter.unusedVariables false
set_option maxRecDepth 100000
theorem mO (ks : List Str) (n : Nat) (h : n = ks.length) : (strs ks).take n = strs ks := List.take_of_length_le (by rw [zi]; omega)
theorem mP (cs : List z1) (n : Nat) (h : n = cs.length) : (ocE (z1.zh cs)).take n = ocE (z1.zh cs) := List.take_of_length_le (by rw [zT, z1.zj]; omega)
set_option maxHeartbeats 16000000 in
theorem nK (f : Int) (top : List Str) (cs : List z1) (T : List Str) (Z : List z1) (ho : (zx.mk top cs).ok) (hb : (zx.mk top cs).zY ≤ 1048576) (hZ : v8 f ⟨top, cs⟩ = ⟨T, Z⟩) :
 EV Tryz.prog pol (.call 3 [.t (.int .i64 f), .agg ((zx.mk top cs).enc.map .t)] []) = some (.call (.t (.bool true)) []) := by
 have hsz := jt (zx.mk top cs) ho 1048576 (by omega) (by omega)
 rw [left_eq (by omega)] at hsz
 have c2 : decide (1048576 - ((zx.mk top cs).zY : Int) < 0) = false := by apply decide_eq_false; omega
 have hto := RM (zx.mk top cs) hb
 have htO := RL (zx.mk top cs) hb
 have heqT := jw (zx.mk top cs) (by omega)
 have hR := Tp f (zx.mk top cs) hb
 have hI := c_pjI f (zx.mk top cs) hb
 have hB2 := Tl f (zx.mk top cs) hb
 unfold PjI at hI
 rw [hZ] at hR hI hB2
 simp only at hI
 have hb' := hb
 unfold GB at hB2
 simp only [zx.zY] at hb' hB2
 have heqR := jw (zx.mk T Z) (by simp only [zx.zY]; omega)
 have hcn := lk cs
 have hcn' := lk Z
 have hM1 := Zm top cs (by omega) (by omega) top.length cs.length rfl rfl (some top.length) (some cs.length) 1 (by omega)
 have hM2 := Zm T Z (by omega) (by omega) T.length Z.length rfl rfl none none 1 (by omega)
 have hH := Sl T Z (by omega) (by omega) 1 (by omega)
 rw [show ((1 : Nat) : Int) = 1 from rfl] at hM1 hM2 hH
 have g1 : decide (((1 + top.length + yg cs : Nat) : Int) < 0) = false := by apply decide_eq_false; omega
 have g2 : decide (((1 + T.length + yg Z : Nat) : Int) < 0) = false := by apply decide_eq_false; omega
 have t1 := mO top top.length rfl
 have t2 := mP cs cs.length rfl
 have t3 := mO T T.length rfl
 have t4 := mP Z Z.length rfl
 have t5 := mO (mkS T.length 1) T.length (vU _ _).symm
 have t6 := mP (xj (1 + T.length) Z) Z.length (by rw [vk])
 have f1 := yq T
 have f2 := ve Z
 unfold iR at heqT heqR
 unfold Kx at htO
 unfold Ky at hto
 clear ho hb hb' hcn hcn' hZ hB2
 generalize (zx.mk top cs).zY = bt at *
 simp only [zx.enc, List.map_cons, List.map_nil] at hsz hto htO heqT heqR hR hI hM1 hM2 hH ⊢
 generalize yg cs = m0 at *
 generalize yg Z = m1 at *
 generalize xj (1 + T.length) Z = mc1 at *
 generalize xj (1 + top.length) cs = mc at *
 generalize mkS T.length 1 = ms1 at *
 generalize mkS top.length 1 = ms at *
 refine zw rfl Tryz.func3 rfl (by kernel_rfl) ?_
 unfold Tryz.f3
 simp (disch := ((try simp only [LL]); omega)) only [↓GO, ↓DRW, GA, GX, ren, zo, za, refs, z8, cst, zr, isC, bin, una, z7, zd, blt, asArg, zg, zc, zf, z6, E.mkS, unN, ze, zq, zb, GS, simprocAttr, zD, zE, yT, yN, yP, yO, yU, gh1, yM, yA, yG, zR, mkO, yH, yB, y7, yS, zK, yL, yK, y9, oc, oTs, oT, zO, zO.rowTs, yF, isL, Bool.not_false, Bool.true_and, Bool.and_true, Bool.and_self, List.flatMap_append, List.map_append, List.set_cons_zero, List.set_cons_succ, GZ, hsz, c2, hto, htO, heqT, heqR, hR, hI, hM1, hM2, hH, g1, g2, t1, t2, t3, t4, t5, t6, f1, f2, List.drop_zero, uf, y6, zU, bne_self_eq_false, zH]
theorem jM (f : Int) (x : zx) (ho : x.ok) : EV Tryz.prog pol (.call 3 [.t (.int .i64 f), .agg (x.enc.map .t)] []) = some (.call (.t (.bool true)) []) := by
 obtain ⟨top, packs⟩ := x
 by_cases hb : (zx.mk top packs).zY ≤ 1048576
 · exact nK f top packs _ _ ho hb rfl
 · have hsz := jt (zx.mk top packs) ho 1048576 (by omega) (by omega)
   have hle : left 1048576 (zx.mk top packs).zY = -1 := if_pos (by omega)
   rw [hle] at hsz
   clear hb hle ho
   simp only [zx.enc, List.map_cons, List.map_nil] at hsz ⊢
   refine zw rfl Tryz.func3 rfl (by kernel_rfl) ?_
   unfold Tryz.f3
   simp (disch := ((try simp only [LL]); omega)) only [↓GO, ↓DRW, GA, GX, ren, zo, za, refs, z8, cst, zr, isC, bin, una, z7, zd, blt, asArg, zg, zc, zf, z6, E.mkS, unN, ze, zq, zb, GS, simprocAttr, zD, zE, yT, yN, yP, yO, yU, gh1, yM, yA, yG, zR, mkO, yH, yB, y7, yS, zK, yL, yK, y9, oc, oTs, oT, zO, zO.rowTs, yF, isL, Bool.not_false, Bool.true_and, Bool.and_true, Bool.and_self, List.flatMap_append, List.map_append, List.set_cons_zero, List.set_cons_succ, GZ, hsz]
end Go.Proofs.YtonbkdklidfmfaaGreatDoor
/- The law of Lossy. Conditions: those of each lemma. -/
namespace Go.Proofs.YtonbkdklidfmfaaGreatDoor
open E
set_option linter.unusedSimpArgs false
set_option linter.unusedVariables false
set_option maxRecDepth 100000
end Go.Proofs.YtonbkdklidfmfaaGreatDoor
/- The laws of Project and Lossy at what is handed in. Conditions: none. -/
namespace Go.Proofs.YtonbkdklidfmfaaGreatDoor
open E
set_option linter.unusedSimpArgs false
set_option linter.unusedVariables false
set_option maxRecDepth 100000
theorem Qc {cs : List T} (h : WT Tryz.prog 3 cs) : ∃ n, cs = [.int .i64 n] := by
 obtain ⟨n, e, _⟩ := h.TQ Tryz.underlying3
 exact ⟨n, e⟩
theorem dX (xs : List V) (h : WTA Tryz.prog [3, 25] xs) : EV Tryz.prog pol (.call 3 xs []) = some (.call (.t (.bool true)) []) := by
 obtain ⟨cs, v, vs, rfl, h1, h2, h3⟩ := h.ez
 obtain ⟨cs1, v1, vs1, rfl, k1, k2, k3⟩ := h3.ez
 have := k3.TP
 subst this
 obtain ⟨f, rfl⟩ := Qc h1
 obtain ⟨a, rfl, oa⟩ := Vb k1
 obtain ⟨ta, pa⟩ := a
 have e0 : zQ Tryz.prog 3 = false := by kernel_rfl
 have e : zQ Tryz.prog 25 = true := by kernel_rfl
 rw [e0] at h2
 rw [e] at k2
 simp [zd, zx.enc] at h2 k2
 subst h2 k2
 exact jM f ⟨ta, pa⟩ oa
end Go.Proofs.YtonbkdklidfmfaaGreatDoor

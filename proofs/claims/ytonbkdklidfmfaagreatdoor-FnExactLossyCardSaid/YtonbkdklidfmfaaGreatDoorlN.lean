/- Joined: K46 V18 K47 B16 B17 W14. Conditions: those of each lemma. -/
import Derived.Test.YtonbkdklidfmfaaGreatDoorlM
import Derived.Test.YtonbkdklidfmfaaGreatDoorlL
import Derived.Test.YtonbkdklidfmfaaGreatDoorlJ
import Derived.Test.YtonbkdklidfmfaaGreatDoorlI
set_option linter.unusedVariables false
set_option linter.unusedSimpArgs false
namespace Go.Proofs.YtonbkdklidfmfaaGreatDoor
open E
set_option linter.unusedSimpArgs false
set_option linter.unusedVariables false
set_option maxRecDepth 100000
theorem oW (x : z1) : (xn x).zV ≤ x.zV := by
 have h9 : (xn x).zz.length + yb (xn x).zz ≤ x.zz.length + yb x.zz := qy _ x.zz
 have e1 : (xn x).name = x.name := rfl
 have e2 : (xn x).version = x.version := rfl
 have e3 : (xn x).source = x.source := rfl
 have e4 : (xn x).sums = x.sums := rfl
 unfold z1.zV
 rw [e1, e2, e3, e4]
 omega
set_option maxHeartbeats 8000000 in
theorem SM (top : List Str) (cs : List z1) (hB : GB ⟨top, cs⟩) (ho : y6 ⟨top, cs⟩ = true) : PjI 3 ⟨top, cs⟩ := by
 have hb := hB.len
 simp only at hb
 have hcp := sV top cs (by omega) (by omega) hb.2.2
 have d0 := wM 3 0 4
 rw [show B2 3 0 4 = true from rfl] at d0
 have d1 := uT _ hB
 rw [ho] at d1
 have e : xL 3 ⟨top, cs⟩ = ⟨[], (cs.filter (xl sH1)).map (zU 3)⟩ := by unfold xL; rw [ho]; rfl
 unfold PjI
 rw [e]
 obtain ⟨J, hJ, hJl, d2⟩ := Th 52 (fun x => !xl sH1 x) cs (by omega) (fun x hx => c_pj3 x (hb.2.2 x hx)) cs.length rfl none
 rw [V1] at d2 hJl
 have L := iu 3 (.inr (.inr (.inr (.inl rfl)))) [] 0 (cs.filter (xl sH1)).length (cs.filter (xl sH1)) [] (by simp) (by have := List.length_filter_le (xl sH1) cs; omega) fun x hx => hb.2.2 x (List.mem_filter.1 hx).1
 have hZl : ((cs.filter (xl sH1)).map (zU 3)).length = (cs.filter (xl sH1)).length := by simp
 rw [hZl]
 rw [List.nil_append] at L
 generalize (cs.filter (xl sH1)).map (zU 3) = Z' at *
 have hot := uq
 have hoc : ∀ l : List z1, (z1.zi l).map (fun e => e.map oc) = ocE (z1.zi l) := fun _ => rfl
 have hpre := rowX (Z := cs.filter (xl sH1)) (J := J)
 have hzn : cs = [] → (cs.filter (xl sH1)) = [] := fun h => by rw [h]; rfl
 generalize cs.filter (xl sH1) = Z at *
 have htk : (ocE (z1.zi Z) ++ J).take Z.length = ocE (z1.zi Z) := by
  have : (ocE (z1.zi Z)).length = Z.length := by rw [zT, z1.zj]
  rw [← this]; simp
 have hle : Z.length ≤ (ocE (z1.zi Z) ++ J).length := by rw [List.length_append, zT, z1.zj]; omega
 obtain ⟨h1, h2, _⟩ := xH (xb Z) hJ
 have f1 := yp top
 simp only [List.length_nil, Int.natCast_zero, List.nil_append, show z1.zi [] = [] from rfl, show ocE [] = [] from rfl, zG] at L
 simp only [zx.enc, List.map_cons, List.map_nil, show strs [] = [] from rfl, List.length_nil] at d1 ⊢
 clear hB hb e hJl hZl ho
 unfold lS at hcp
 rcases hpre with ⟨hq, hE⟩ | hq
 · rw [hE] at d2
   clear h1 h2 htk hle hq hE hJ
   rcases hcp with ⟨hcp, rfl⟩ | hcp
   · have := hzn rfl
     subst this
     try simp only [show z1.zi [] = [] from rfl, show ocE [] = [] from rfl, show strs [] = [] from rfl, List.length_nil, Int.natCast_zero] at hcp d1 d2 L ⊢
     refine zN Tryz.func10 rfl (by kernel_rfl) ?_
     unfold Tryz.f10
     simp (maxSteps := 1000000) (disch := ((try simp only [LL]); omega)) only [↓GO, ↓DRW, GA, GX, ren, zn, za, refs, z8, cst, zr, isC, bin, una, z7, zd, blt, asArg, zg, zc, zf, z6, E.mkS, unN, ze, zq, zb, GS, simprocAttr, zD, zE, yK, yD, yI, yH, yL, gh1, yC, yr, yw, zO, mkO, yx, yt, y7, yJ, zI, yB, yA, y9, oc, oTs, oT, zM, zM.rowTs, yv, isL, Bool.not_false, Bool.true_and, Bool.and_true, Bool.and_self, List.flatMap_append, List.map_append, List.set_cons_zero, List.set_cons_succ, GZ, hcp, d0, d1, d2, L, hot, hoc, f1, zh, zZ, zR, zT, z1.zj, List.drop_zero, false_and, if_false, Bool.not_false, Bool.not_true, vk, vO, List.all_nil, bne, zF]
   · refine zN Tryz.func10 rfl (by kernel_rfl) ?_
     unfold Tryz.f10
     simp (maxSteps := 1000000) (disch := ((try simp only [LL]); omega)) only [↓GO, ↓DRW, GA, GX, ren, zn, za, refs, z8, cst, zr, isC, bin, una, z7, zd, blt, asArg, zg, zc, zf, z6, E.mkS, unN, ze, zq, zb, GS, simprocAttr, zD, zE, yK, yD, yI, yH, yL, gh1, yC, yr, yw, zO, mkO, yx, yt, y7, yJ, zI, yB, yA, y9, oc, oTs, oT, zM, zM.rowTs, yv, isL, Bool.not_false, Bool.true_and, Bool.and_true, Bool.and_self, List.flatMap_append, List.map_append, List.set_cons_zero, List.set_cons_succ, GZ, hcp, d0, d1, d2, L, hot, hoc, f1, zh, zZ, zR, zT, z1.zj, List.drop_zero, false_and, if_false, Bool.not_false, Bool.not_true, vk, vO, List.all_nil, bne, zF]
 · have hot' : vk (ocE (z1.zi Z)) = some (z1.zi Z) := hot Z
   generalize ocE (z1.zi Z) ++ J = E1 at *
   rcases hcp with ⟨hcp, rfl⟩ | hcp
   · have := hzn rfl
     subst this
     try simp only [show z1.zi [] = [] from rfl, show ocE [] = [] from rfl, show strs [] = [] from rfl, List.length_nil, Int.natCast_zero] at hcp d1 d2 L htk hq hle hot' ⊢
     refine zN Tryz.func10 rfl (by kernel_rfl) ?_
     unfold Tryz.f10
     simp (maxSteps := 1000000) (disch := ((try simp only [LL]); omega)) only [↓GO, ↓DRW, GA, GX, ren, zn, za, refs, z8, cst, zr, isC, bin, una, z7, zd, blt, asArg, zg, zc, zf, z6, E.mkS, unN, ze, zq, zb, GS, simprocAttr, zD, zE, yK, yD, yI, yH, yL, gh1, yC, yr, yw, zO, mkO, yx, yt, y7, yJ, zI, yB, yA, y9, oc, oTs, oT, zM, zM.rowTs, yv, isL, Bool.not_false, Bool.true_and, Bool.and_true, Bool.and_self, List.flatMap_append, List.map_append, List.set_cons_zero, List.set_cons_succ, GZ, hcp, d0, d1, d2, L, hq, htk, hle, h1, h2, hot', hot, hoc, f1, zh, zZ, zR, zT, z1.zj, List.drop_zero, false_and, if_false, Bool.not_false, Bool.not_true, vk, vO, List.all_nil, bne, zF]
   · refine zN Tryz.func10 rfl (by kernel_rfl) ?_
     unfold Tryz.f10
     simp (maxSteps := 1000000) (disch := ((try simp only [LL]); omega)) only [↓GO, ↓DRW, GA, GX, ren, zn, za, refs, z8, cst, zr, isC, bin, una, z7, zd, blt, asArg, zg, zc, zf, z6, E.mkS, unN, ze, zq, zb, GS, simprocAttr, zD, zE, yK, yD, yI, yH, yL, gh1, yC, yr, yw, zO, mkO, yx, yt, y7, yJ, zI, yB, yA, y9, oc, oTs, oT, zM, zM.rowTs, yv, isL, Bool.not_false, Bool.true_and, Bool.and_true, Bool.and_self, List.flatMap_append, List.map_append, List.set_cons_zero, List.set_cons_succ, GZ, hcp, d0, d1, d2, L, hq, htk, hle, h1, h2, hot', hot, hoc, f1, zh, zZ, zR, zT, z1.zj, List.drop_zero, false_and, if_false, Bool.not_false, Bool.not_true, vk, vO, List.all_nil, bne, zF]
set_option maxHeartbeats 8000000 in
theorem SL (top : List Str) (cs : List z1) (hB : GB ⟨top, cs⟩) (ho : y6 ⟨top, cs⟩ = true) : PjI 4 ⟨top, cs⟩ := by
 have hb := hB.len
 simp only at hb
 have hcp := sV top cs (by omega) (by omega) hb.2.2
 have d0 := wM 4 0 4
 rw [show B2 4 0 4 = true from rfl] at d0
 have d1 := uT _ hB
 rw [ho] at d1
 have e : xL 4 ⟨top, cs⟩ = ⟨[], (wq [] cs).map (zU 4)⟩ := by unfold xL; rw [ho]; rfl
 unfold PjI
 rw [e]
 obtain ⟨G', cap', hG', L4⟩ := Tp 4 (strs top) top.length cs cs [] [] (some 0) pH (by simp) (by omega) (Nat.le_refl _)
 have hdl : ∀ r acc : List z1, (wq acc r).length ≤ acc.length + r.length := fun r => by
  induction r with
  | nil => intro acc; rw [wq]; simp
  | cons p r ih =>
   intro acc
   rw [wq]
   cases acc.any (xW p) with
   | true => have := ih acc; rw [cond_true]; simp; omega
   | false => have := ih (acc ++ [p]); rw [cond_false]; simp at this ⊢; omega
 have hdl' := hdl cs []
 have hdi : ∀ x ∈ wq [] cs, x ∈ cs := fun x hx => by
  have key : ∀ (r acc : List z1) (x : z1), x ∈ wq acc r → x ∈ acc ∨ x ∈ r := fun r => by
   induction r with
   | nil => intro acc x h; rw [wq] at h; exact .inl h
   | cons p r ih =>
    intro acc x h
    rw [wq] at h
    cases hc : acc.any (xW p) with
    | true => rw [hc, cond_true] at h; rcases ih acc x h with h | h; exact .inl h; exact .inr (by simp [h])
    | false =>
     rw [hc, cond_false] at h
     rcases ih _ x h with h | h
     · rcases List.mem_append.1 h with h | h
       · exact .inl h
       · exact .inr (by simp at h; simp [h])
     · exact .inr (by simp [h])
  rcases key cs [] x hx with h | h
  · cases h
  · exact h
 have L := iu 4 (.inr (.inr (.inr (.inr rfl)))) [] 0 (wq [] cs).length (wq [] cs) [] (by simp) (by simp at hdl'; omega) fun x hx => hb.2.2 x (hdi x hx)
 have hZl : ((wq [] cs).map (zU 4)).length = (wq [] cs).length := by simp
 rw [hZl]
 rw [List.nil_append] at L
 generalize (wq [] cs).map (zU 4) = Z' at *
 generalize wq [] cs = Z at *
 have hot := uq
 have hoc : ∀ l : List z1, (z1.zi l).map (fun e => e.map oc) = ocE (z1.zi l) := fun _ => rfl
 obtain ⟨h1, h2, _⟩ := hG'
 have f1 := yp top
 simp only [List.length_nil, Int.natCast_zero, List.nil_append, show z1.zi [] = [] from rfl, show ocE [] = [] from rfl, zG] at L L4
 simp only [zx.enc, List.map_cons, List.map_nil, show strs [] = [] from rfl, List.length_nil] at d1 ⊢
 clear hB hb e hZl ho hdl hdl' hdi
 unfold lS at hcp
 rcases hcp with ⟨hcp, rfl⟩ | hcp
 all_goals
  try simp only [show z1.zi [] = [] from rfl, show ocE [] = [] from rfl, show strs [] = [] from rfl, List.length_nil, Int.natCast_zero] at hcp d1 L4 L ⊢
  refine zN Tryz.func10 rfl (by kernel_rfl) ?_
  unfold Tryz.f10
  simp (maxSteps := 1000000) (disch := ((try simp only [LL]); omega)) only [↓GO, ↓DRW, GA, GX, ren, zn, za, refs, z8, cst, zr, isC, bin, una, z7, zd, blt, asArg, zg, zc, zf, z6, E.mkS, unN, ze, zq, zb, GS, simprocAttr, zD, zE, yK, yD, yI, yH, yL, gh1, yC, yr, yw, zO, mkO, yx, yt, y7, yJ, zI, yB, yA, y9, oc, oTs, oT, zM, zM.rowTs, yv, isL, Bool.not_false, Bool.true_and, Bool.and_true, Bool.and_self, List.flatMap_append, List.map_append, List.set_cons_zero, List.set_cons_succ, GZ, hcp, d0, d1, L4, L, h1, h2, hot, hoc, f1, zh, zZ, zR, zT, z1.zj, List.drop_zero, false_and, if_false, Bool.not_false, Bool.not_true, vk, vO, List.all_nil, bne, zF]
set_option maxHeartbeats 16000000 in
theorem SN (top : List Str) (cs : List z1) (hB : GB ⟨top, cs⟩) (ho : y6 ⟨top, cs⟩ = true) : PjI 2 ⟨top, cs⟩ := by
 have hb := hB.len
 simp only at hb
 have hcp := sV top cs (by omega) (by omega) hb.2.2
 have d0 := wM 2 0 4
 rw [show B2 2 0 4 = true from rfl] at d0
 have d1 := uT _ hB
 rw [ho] at d1
 have e : xL 2 ⟨top, cs⟩ = ⟨top.filter fun k => !rootKey k, ((cs.filter fun p => !(p.name == xk)).map xn).map (zU 2)⟩ := by unfold xL; rw [ho]; rfl
 unfold PjI
 rw [e]
 obtain ⟨Jt, hJt, d2⟩ := Tg 47 rootKey top (by omega) (fun k hk => RN k (by have h9 := qE hk; have h8 := hB; unfold GB zx.zV at h8; simp only at h8; omega)) none top.length rfl
 obtain ⟨J, hJ, hJl, d3⟩ := Th 51 (fun x => x.name == xk) cs (by omega) (fun x hx => c_pj2 x) cs.length rfl none
 have hfl := List.length_filter_le (fun p : z1 => !(p.name == xk)) cs
 have hnb : ∀ x : z1, x.zV ≤ 1048576 → (xn x).zV ≤ 1048576 := fun x hx => by
  exact Nat.le_trans (oW x) hx
 have LN := Rv 2 (strs (top.filter fun k => !rootKey k)) (top.filter fun k => !rootKey k).length (cs.filter fun p => !(p.name == xk)).length (cs.filter fun p => !(p.name == xk)) [] (by simp) (by omega) fun x hx => hb.2.2 x (List.mem_filter.1 hx).1
 have L := iu 2 (.inr (.inr (.inl rfl))) (strs (top.filter fun k => !rootKey k)) (top.filter fun k => !rootKey k).length (cs.filter fun p => !(p.name == xk)).length ((cs.filter fun p => !(p.name == xk)).map xn) [] (by simp) (by omega) fun x hx => by
  obtain ⟨y, hy, rfl⟩ := List.mem_map.1 hx
  exact hnb y (hb.2.2 y (List.mem_filter.1 hy).1)
 have hZl : (((cs.filter fun p => !(p.name == xk)).map xn).map (zU 2)).length = (cs.filter fun p => !(p.name == xk)).length := by simp
 rw [hZl]
 rw [List.nil_append] at L LN
 generalize ((cs.filter fun p => !(p.name == xk)).map xn).map (zU 2) = Z' at *
 have hZn : ((cs.filter fun p => !(p.name == xk)).map xn).length = (cs.filter fun p => !(p.name == xk)).length := by simp
 generalize (cs.filter fun p => !(p.name == xk)).map xn = Zn at *
 have hot := uq
 have hoc : ∀ l : List z1, (z1.zi l).map (fun e => e.map oc) = ocE (z1.zi l) := fun _ => rfl
 have hpre := rowX (Z := cs.filter fun p => !(p.name == xk)) (J := J)
 have hprs := rowXs (Z := top.filter fun k => !rootKey k) (J := Jt)
 have hzn : cs = [] → (cs.filter fun p => !(p.name == xk)) = [] := fun h => by rw [h]; rfl
 generalize (cs.filter fun p => !(p.name == xk)) = Z at *
 generalize (top.filter fun k => !rootKey k) = Zt at *
 have htk : (ocE (z1.zi Z) ++ J).take Z.length = ocE (z1.zi Z) := by
  have : (ocE (z1.zi Z)).length = Z.length := by rw [zT, z1.zj]
  rw [← this]; simp
 have hle : Z.length ≤ (ocE (z1.zi Z) ++ J).length := by rw [List.length_append, zT, z1.zj]; omega
 have htk2 : (strs (Zt ++ Jt)).take Zt.length = strs Zt := by rw [show strs (Zt ++ Jt) = strs Zt ++ strs Jt by simp [strs], ← zh Zt]; simp
 have hle2 : Zt.length ≤ (strs (Zt ++ Jt)).length := by rw [zh, List.length_append]; omega
 obtain ⟨h1, h2, _⟩ := xH (xb Z) hJ
 have f1 := yp top
 have f2 := yp Zt
 have f3 := yp (Zt ++ Jt)
 simp only [List.length_nil, Int.natCast_zero, List.nil_append, show z1.zi [] = [] from rfl, show ocE [] = [] from rfl, zG] at L LN
 simp only [zx.enc, List.map_cons, List.map_nil, show strs [] = [] from rfl, List.length_nil] at d1 ⊢
 clear hB hb e hJl hZl ho hnb hfl hJt
 unfold lS at hcp
 have hzl2 := zh Zt
 have hE1 : (ocE (z1.zi Z) ++ J).length = Z.length ∧ ocE (z1.zi Z) ++ J = ocE (z1.zi Z) → ∃ Y, Y = ocE (z1.zi Z) := fun _ => ⟨_, rfl⟩
 clear hE1
 have hot' : vk (ocE (z1.zi Z)) = some (z1.zi Z) := hot Z
 have hol : (ocE (z1.zi Z)).length = Z.length := by rw [zT, z1.zj]
 rcases hpre with ⟨hq, hE⟩ | hq <;> rcases hprs with ⟨hq2, hE2⟩ | hq2
 · rw [hE] at d3
   rw [hE2] at d2
   rcases hcp with ⟨hcp, rfl⟩ | hcp
   · have := hzn rfl
     subst this
     obtain rfl : Zn = [] := List.eq_nil_of_length_eq_zero (by simpa using hZn)
     try simp only [show z1.zi [] = [] from rfl, show ocE [] = [] from rfl, List.length_nil, Int.natCast_zero] at hcp d1 d3 L LN ⊢
     refine zN Tryz.func10 rfl (by kernel_rfl) ?_
     unfold Tryz.f10
     simp (maxSteps := 1000000) (disch := ((try simp only [LL]); omega)) only [↓GO, ↓DRW, GA, GX, ren, zn, za, refs, z8, cst, zr, isC, bin, una, z7, zd, blt, asArg, zg, zc, zf, z6, E.mkS, unN, ze, zq, zb, GS, simprocAttr, zD, zE, yK, yD, yI, yH, yL, gh1, yC, yr, yw, zO, mkO, yx, yt, y7, yJ, zI, yB, yA, y9, oc, oTs, oT, zM, zM.rowTs, yv, isL, Bool.not_false, Bool.true_and, Bool.and_true, Bool.and_self, List.flatMap_append, List.map_append, List.set_cons_zero, List.set_cons_succ, GZ, hcp, d0, d1, d2, d3, LN, L, hot, hoc, f1, f2, hzl2, zh, zZ, zR, zT, z1.zj, List.drop_zero, false_and, if_false, Bool.not_false, Bool.not_true, vk, bne, zF]
   · refine zN Tryz.func10 rfl (by kernel_rfl) ?_
     unfold Tryz.f10
     simp (maxSteps := 1000000) (disch := ((try simp only [LL]); omega)) only [↓GO, ↓DRW, GA, GX, ren, zn, za, refs, z8, cst, zr, isC, bin, una, z7, zd, blt, asArg, zg, zc, zf, z6, E.mkS, unN, ze, zq, zb, GS, simprocAttr, zD, zE, yK, yD, yI, yH, yL, gh1, yC, yr, yw, zO, mkO, yx, yt, y7, yJ, zI, yB, yA, y9, oc, oTs, oT, zM, zM.rowTs, yv, isL, Bool.not_false, Bool.true_and, Bool.and_true, Bool.and_self, List.flatMap_append, List.map_append, List.set_cons_zero, List.set_cons_succ, GZ, hcp, d0, d1, d2, d3, LN, L, hZn, hot, hoc, f1, f2, hzl2, zh, zZ, zR, zT, z1.zj, List.drop_zero, false_and, if_false, Bool.not_false, Bool.not_true, vk, bne, zF]
 · rw [hE] at d3
   generalize strs (Zt ++ Jt) = E2 at *
   rcases hcp with ⟨hcp, rfl⟩ | hcp
   · have := hzn rfl
     subst this
     obtain rfl : Zn = [] := List.eq_nil_of_length_eq_zero (by simpa using hZn)
     try simp only [show z1.zi [] = [] from rfl, show ocE [] = [] from rfl, List.length_nil, Int.natCast_zero] at hcp d1 d3 L LN ⊢
     refine zN Tryz.func10 rfl (by kernel_rfl) ?_
     unfold Tryz.f10
     simp (maxSteps := 1000000) (disch := ((try simp only [LL]); omega)) only [↓GO, ↓DRW, GA, GX, ren, zn, za, refs, z8, cst, zr, isC, bin, una, z7, zd, blt, asArg, zg, zc, zf, z6, E.mkS, unN, ze, zq, zb, GS, simprocAttr, zD, zE, yK, yD, yI, yH, yL, gh1, yC, yr, yw, zO, mkO, yx, yt, y7, yJ, zI, yB, yA, y9, oc, oTs, oT, zM, zM.rowTs, yv, isL, Bool.not_false, Bool.true_and, Bool.and_true, Bool.and_self, List.flatMap_append, List.map_append, List.set_cons_zero, List.set_cons_succ, GZ, hcp, d0, d1, d2, d3, LN, L, hq2, htk2, hle2, hot, hoc, f1, f2, f3, hzl2, zh, zZ, zR, zT, z1.zj, List.drop_zero, false_and, if_false, Bool.not_false, Bool.not_true, vk, bne, zF]
   · refine zN Tryz.func10 rfl (by kernel_rfl) ?_
     unfold Tryz.f10
     simp (maxSteps := 1000000) (disch := ((try simp only [LL]); omega)) only [↓GO, ↓DRW, GA, GX, ren, zn, za, refs, z8, cst, zr, isC, bin, una, z7, zd, blt, asArg, zg, zc, zf, z6, E.mkS, unN, ze, zq, zb, GS, simprocAttr, zD, zE, yK, yD, yI, yH, yL, gh1, yC, yr, yw, zO, mkO, yx, yt, y7, yJ, zI, yB, yA, y9, oc, oTs, oT, zM, zM.rowTs, yv, isL, Bool.not_false, Bool.true_and, Bool.and_true, Bool.and_self, List.flatMap_append, List.map_append, List.set_cons_zero, List.set_cons_succ, GZ, hcp, d0, d1, d2, d3, LN, L, hZn, hq2, htk2, hle2, hot, hoc, f1, f2, f3, hzl2, zh, zZ, zR, zT, z1.zj, List.drop_zero, false_and, if_false, Bool.not_false, Bool.not_true, vk, bne, zF]
 · rw [hE2] at d2
   generalize ocE (z1.zi Z) ++ J = E1 at *
   rcases hcp with ⟨hcp, rfl⟩ | hcp
   · have := hzn rfl
     subst this
     obtain rfl : Zn = [] := List.eq_nil_of_length_eq_zero (by simpa using hZn)
     try simp only [show z1.zi [] = [] from rfl, show ocE [] = [] from rfl, List.length_nil, Int.natCast_zero] at hcp d1 d3 L LN htk hq hle hot' ⊢
     refine zN Tryz.func10 rfl (by kernel_rfl) ?_
     unfold Tryz.f10
     simp (maxSteps := 1000000) (disch := ((try simp only [LL]); omega)) only [↓GO, ↓DRW, GA, GX, ren, zn, za, refs, z8, cst, zr, isC, bin, una, z7, zd, blt, asArg, zg, zc, zf, z6, E.mkS, unN, ze, zq, zb, GS, simprocAttr, zD, zE, yK, yD, yI, yH, yL, gh1, yC, yr, yw, zO, mkO, yx, yt, y7, yJ, zI, yB, yA, y9, oc, oTs, oT, zM, zM.rowTs, yv, isL, Bool.not_false, Bool.true_and, Bool.and_true, Bool.and_self, List.flatMap_append, List.map_append, List.set_cons_zero, List.set_cons_succ, GZ, hcp, d0, d1, d2, d3, LN, L, hq, htk, hle, h1, h2, hot', hot, hoc, f1, f2, hzl2, zh, zZ, zR, zT, z1.zj, List.drop_zero, false_and, if_false, Bool.not_false, Bool.not_true, vk, bne, zF]
   · refine zN Tryz.func10 rfl (by kernel_rfl) ?_
     unfold Tryz.f10
     simp (maxSteps := 1000000) (disch := ((try simp only [LL]); omega)) only [↓GO, ↓DRW, GA, GX, ren, zn, za, refs, z8, cst, zr, isC, bin, una, z7, zd, blt, asArg, zg, zc, zf, z6, E.mkS, unN, ze, zq, zb, GS, simprocAttr, zD, zE, yK, yD, yI, yH, yL, gh1, yC, yr, yw, zO, mkO, yx, yt, y7, yJ, zI, yB, yA, y9, oc, oTs, oT, zM, zM.rowTs, yv, isL, Bool.not_false, Bool.true_and, Bool.and_true, Bool.and_self, List.flatMap_append, List.map_append, List.set_cons_zero, List.set_cons_succ, GZ, hcp, d0, d1, d2, d3, LN, L, hZn, hq, htk, hle, h1, h2, hot', hot, hoc, f1, f2, hzl2, zh, zZ, zR, zT, z1.zj, List.drop_zero, false_and, if_false, Bool.not_false, Bool.not_true, vk, bne, zF]
 · generalize ocE (z1.zi Z) ++ J = E1 at *
   generalize strs (Zt ++ Jt) = E2 at *
   rcases hcp with ⟨hcp, rfl⟩ | hcp
   · have := hzn rfl
     subst this
     obtain rfl : Zn = [] := List.eq_nil_of_length_eq_zero (by simpa using hZn)
     try simp only [show z1.zi [] = [] from rfl, show ocE [] = [] from rfl, List.length_nil, Int.natCast_zero] at hcp d1 d3 L LN htk hq hle hot' ⊢
     refine zN Tryz.func10 rfl (by kernel_rfl) ?_
     unfold Tryz.f10
     simp (maxSteps := 1000000) (disch := ((try simp only [LL]); omega)) only [↓GO, ↓DRW, GA, GX, ren, zn, za, refs, z8, cst, zr, isC, bin, una, z7, zd, blt, asArg, zg, zc, zf, z6, E.mkS, unN, ze, zq, zb, GS, simprocAttr, zD, zE, yK, yD, yI, yH, yL, gh1, yC, yr, yw, zO, mkO, yx, yt, y7, yJ, zI, yB, yA, y9, oc, oTs, oT, zM, zM.rowTs, yv, isL, Bool.not_false, Bool.true_and, Bool.and_true, Bool.and_self, List.flatMap_append, List.map_append, List.set_cons_zero, List.set_cons_succ, GZ, hcp, d0, d1, d2, d3, LN, L, hq, htk, hle, hq2, htk2, hle2, h1, h2, hot', hot, hoc, f1, f2, f3, hzl2, zh, zZ, zR, zT, z1.zj, List.drop_zero, false_and, if_false, Bool.not_false, Bool.not_true, vk, bne, zF]
   · refine zN Tryz.func10 rfl (by kernel_rfl) ?_
     unfold Tryz.f10
     simp (maxSteps := 1000000) (disch := ((try simp only [LL]); omega)) only [↓GO, ↓DRW, GA, GX, ren, zn, za, refs, z8, cst, zr, isC, bin, una, z7, zd, blt, asArg, zg, zc, zf, z6, E.mkS, unN, ze, zq, zb, GS, simprocAttr, zD, zE, yK, yD, yI, yH, yL, gh1, yC, yr, yw, zO, mkO, yx, yt, y7, yJ, zI, yB, yA, y9, oc, oTs, oT, zM, zM.rowTs, yv, isL, Bool.not_false, Bool.true_and, Bool.and_true, Bool.and_self, List.flatMap_append, List.map_append, List.set_cons_zero, List.set_cons_succ, GZ, hcp, d0, d1, d2, d3, LN, L, hZn, hq, htk, hle, hq2, htk2, hle2, h1, h2, hot', hot, hoc, f1, f2, f3, hzl2, zh, zZ, zR, zT, z1.zj, List.drop_zero, false_and, if_false, Bool.not_false, Bool.not_true, vk, bne, zF]
theorem c_pjI (f : Int) (g : zx) (hB : GB g) : PjI f g := by
 obtain ⟨top, cs⟩ := g
 cases q : vi f && y6 ⟨top, cs⟩ with
 | false => exact Vi f top cs hB q
 | true =>
  rw [Bool.and_eq_true] at q
  rcases pz q.1 with rfl | rfl | rfl | rfl | rfl
  · exact dG 0 (.inl rfl) top cs hB q.2
  · exact dG 1 (.inr rfl) top cs hB q.2
  · exact SN top cs hB q.2
  · exact SM top cs hB q.2
  · exact SL top cs hB q.2
end Go.Proofs.YtonbkdklidfmfaaGreatDoor
/- What a format loses of a graph, plain: both ways come to the same. Conditions: none. -/
namespace Go.Proofs.YtonbkdklidfmfaaGreatDoor
open E
set_option linter.unusedVariables false
set_option linter.unusedSimpArgs false
set_option maxRecDepth 100000
def lJ : Str := [103, 111, 110, 101]
def nC : Str := [115, 111, 117, 114, 99, 101]
def ZX : Str := [115, 117, 109, 115]
def Rf : Str := [100, 101, 118]
def gg : Str := [110, 101, 101, 100, 115]
def au : Str := [116, 111, 112]
/-- what of a pack is lost, by its place in what is kept: the program's way -/
def xy (p q : z1) : Str := cond (p.source == q.source) (cond (wG p.sums == wG q.sums) (cond (p.dev == q.dev) (cond (p.zz == q.zz) [] gg) Rf) ZX) nC
def yT (p q : z1) : Str := cond (p.source == q.source) (cond ((p.sums.length : Int) == (q.sums.length : Int)) (cond (p.dev == q.dev) (cond ((p.zz.length : Int) == (q.zz.length : Int)) [] gg) Rf) ZX) nC
def yW (l : z1 → z1 → Str) (h : zx) (p : z1) : Str := match xN h.packs (keyOf p) with
 | none => lJ
 | some q => l p q
def vM (l : z1 → z1 → Str) (h : zx) (p : z1) : List Str := cond (yW l h p == []) [] [(keyOf p ++ [32]) ++ yW l h p]
def u7 (l : z1 → z1 → Str) (h g : zx) : List Str := cond (g.top == h.top) [] [au] ++ g.packs.flatMap (vM l h)
theorem jh {α : Type} (f : α → Bool) (l : List α) (h : l.length = (l.filter f).length) : l.filter f = l := by
 induction l with
 | nil => rfl
 | cons x r ih =>
  rw [List.filter_cons] at h ⊢
  have hle := List.length_filter_le f r
  cases hx : f x with
  | true =>
   rw [hx] at h
   simp only [if_true, List.length_cons] at h ⊢
   rw [ih (by omega)]
  | false =>
   rw [hx] at h
   simp only [Bool.false_eq_true, if_false, List.length_cons] at h
   omega
theorem lenI {a b : Nat} (h : a ≠ b) : ((a : Int) == (b : Int)) = false := by rw [beq_eq_false_iff_ne]; omega
theorem aX {a b : Nat} (h : a = b) : ((a : Int) == (b : Int)) = true := by rw [h]; simp
theorem Wq (f : zy → Bool) (l : List zy) : (wG l == wG (l.filter f)) = ((l.length : Int) == ((l.filter f).length : Int)) := by
 by_cases h : l.length = (l.filter f).length
 · rw [aX h, jh f l h]; simp
 · rw [lenI h, beq_eq_false_iff_ne]
   intro e
   exact h (by rw [← r6 l, e, r6])
theorem YB (f : Str → Bool) (l : List Str) : (l == l.filter f) = ((l.length : Int) == ((l.filter f).length : Int)) := by
 by_cases h : l.length = (l.filter f).length
 · rw [aX h, jh f l h]; simp
 · rw [lenI h, beq_eq_false_iff_ne]
   intro e
   exact h (congrArg List.length e)
/-- what is kept of a pack has a part of its sums and of its needs -/
def Part (p q : z1) : Prop := (∃ f, q.sums = p.sums.filter f) ∧ ∃ f, q.zz = p.zz.filter f
theorem my {p q : z1} (h : Part p q) : xy p q = yT p q := by
 obtain ⟨⟨f, h1⟩, k, h2⟩ := h
 unfold xy yT
 rw [h1, h2, Wq, YB]
theorem Part.refl (p : z1) : Part p p := ⟨⟨fun _ => true, (List.filter_eq_self.2 fun _ _ => rfl).symm⟩, fun _ => true, (List.filter_eq_self.2 fun _ _ => rfl).symm⟩
theorem Part.zU (f : Int) (p : z1) : Part p (zU f p) := by
 refine ⟨⟨xm f, rfl⟩, ?_⟩
 show ∃ k, cond (f == 3 || f == 4) [] p.zz = p.zz.filter k
 cases (f == 3 || f == 4) with
 | true => exact ⟨fun _ => false, (List.filter_eq_nil_iff.2 fun _ _ => by decide).symm⟩
 | false => exact ⟨fun _ => true, (List.filter_eq_self.2 fun _ _ => rfl).symm⟩
theorem iV : ∀ (r acc : List z1) (x : z1), x ∈ wq acc r → x ∈ acc ∨ x ∈ r
 | [], acc, x, h => by rw [wq] at h; exact .inl h
 | p :: r, acc, x, h => by
  rw [wq] at h
  cases hc : acc.any (xW p) with
  | true =>
   rw [hc, cond_true] at h
   rcases iV r acc x h with h | h
   · exact .inl h
   · exact .inr (List.mem_cons_of_mem _ h)
  | false =>
   rw [hc, cond_false] at h
   rcases iV r _ x h with h | h
   · rcases List.mem_append.1 h with h | h
     · exact .inl h
     · exact .inr (by rw [List.mem_singleton.1 h]; simp)
   · exact .inr (List.mem_cons_of_mem _ h)
theorem TV (f : Int) (g : zx) (x : z1) (h : x ∈ aF f g) : x ∈ g.packs ∨ (f = 2 ∧ ∃ p ∈ g.packs, x = xn p) := by
 unfold aF at h
 cases h0 : (f == 0) with
 | true => rw [h0, cond_true] at h; exact .inl (List.mem_filter.1 h).1
 | false =>
  rw [h0, cond_false] at h
  cases h2 : (f == 2) with
  | true =>
   rw [h2, cond_true] at h
   obtain ⟨p, h3, rfl⟩ := List.mem_map.1 h
   exact .inr ⟨eq_of_beq h2, p, (List.mem_filter.1 h3).1, rfl⟩
  | false =>
   rw [h2, cond_false] at h
   cases h3 : (f == 3) with
   | true => rw [h3, cond_true] at h; exact .inl (List.mem_filter.1 h).1
   | false =>
    rw [h3, cond_false] at h
    cases h4 : (f == 4) with
    | true =>
     rw [h4, cond_true] at h
     rcases iV _ _ _ h with h | h
     · cases h
     · exact .inl h
    | false => rw [h4, cond_false] at h; exact .inl h
theorem cG (f : Int) (g : zx) (hg : y6 g = true) (p q : z1) (hp : p ∈ g.packs) (hq : q ∈ (vN f g).packs) (e : keyOf q = keyOf p) : Part p q := by
 obtain ⟨x, hx, rfl⟩ := List.mem_map.1 hq
 rcases TV f g x hx with h | ⟨rfl, r, hr, rfl⟩
 · have := (wc hg).key x h p hp e
   subst this
   exact Part.zU f x
 · have := (wc hg).key r hr p hp e
   subst this
   exact ⟨⟨xm 2, rfl⟩, fun k => !rootKey k, rfl⟩
theorem gL (f : Int) (g : zx) (hg : y6 g = true) (p : z1) (hp : p ∈ g.packs) : yW xy (vN f g) p = yW yT (vN f g) p := by
 unfold yW
 cases h : xN (vN f g).packs (keyOf p) with
 | none => rfl
 | some q =>
  obtain ⟨h1, h2, _⟩ := vK h
  exact my (cG f g hg p q hp h1 h2)
theorem gK (g : zx) (hg : y6 g = true) (p : z1) (hp : p ∈ g.packs) : yW xy g p = yW yT g p := by
 unfold yW
 rw [tZ (wc hg) hp]
 exact my (Part.refl p)
theorem YF (f : Int) (g : zx) (hg : y6 g = true) : u7 xy (vN f g) g = u7 yT (vN f g) g := by
 unfold u7
 congr 1
 rw [List.flatMap_def, List.flatMap_def]
 congr 1
 refine List.map_congr_left fun p hp => ?_
 unfold vM
 rw [gL f g hg p hp]
theorem YE (g : zx) (hg : y6 g = true) : u7 xy g g = u7 yT g g := by
 unfold u7
 congr 1
 rw [List.flatMap_def, List.flatMap_def]
 congr 1
 refine List.map_congr_left fun p hp => ?_
 unfold vM
 rw [gK g hg p hp]
theorem cu (l : z1 → z1 → Str) (hl : ∀ p q, (l p q).length ≤ 6) (h : zx) (p : z1) : (yW l h p).length ≤ 6 := by
 unfold yW
 cases xN h.packs (keyOf p) with
 | none => exact (by decide : lJ.length ≤ 6)
 | some q => exact hl p q
theorem cx (p q : z1) : (xy p q).length ≤ 6 := by
 unfold xy
 cases (p.source == q.source) <;> cases (wG p.sums == wG q.sums) <;> cases (p.dev == q.dev) <;> cases (p.zz == q.zz) <;> decide
theorem cw (p q : z1) : (yT p q).length ≤ 6 := by
 unfold yT
 cases (p.source == q.source) <;> cases ((p.sums.length : Int) == (q.sums.length : Int)) <;> cases (p.dev == q.dev) <;> cases ((p.zz.length : Int) == (q.zz.length : Int)) <;> decide
theorem kW (l : z1 → z1 → Str) (h : zx) : ∀ ps : List z1, (ps.flatMap (vM l h)).length ≤ ps.length
 | [] => Nat.le_refl _
 | p :: r => by
  have ih := kW l h r
  rw [List.flatMap_cons, List.length_append, List.length_cons]
  unfold vM at ih ⊢
  cases (yW l h p == []) <;> simp only [cond_true, cond_false, List.length_cons, List.length_nil] <;> omega
theorem YG (l : z1 → z1 → Str) (h g : zx) : (u7 l h g).length ≤ g.packs.length + 1 := by
 have := kW l h g.packs
 unfold u7
 rw [List.length_append]
 cases (g.top == h.top) <;> simp only [cond_true, cond_false, List.length_cons, List.length_nil] <;> omega
end Go.Proofs.YtonbkdklidfmfaaGreatDoor
/- Lossy by both. Conditions: those of each lemma. -/
namespace Go.Proofs.YtonbkdklidfmfaaGreatDoor
open E
set_option linter.unusedSimpArgs false
set_option linter.unusedVariables false
set_option maxRecDepth 100000
theorem mz (l : z1 → z1 → Str) (h : zx) (x : z1) (r : List z1) : (x :: r).flatMap (vM l h) = vM l h x ++ r.flatMap (vM l h) := rfl
set_option maxHeartbeats 2000000 in
theorem c_l1R (p q : z1) : zm (EV Tryz.prog pol) 63 [.agg (p.enc.map .t), .agg (q.enc.map .t)] = some (.t (.str (yT p q))) := by
 have hs1 := zy.zj p.sums
 have hs2 := zy.zj q.sums
 have hs3 := zh p.zz
 have hs4 := zh q.zz
 unfold yT nC ZX Rf gg
 obtain ⟨name, version, source, sums, dev, zz⟩ := p
 obtain ⟨name', version', source', sums', dev', needs'⟩ := q
 simp only [z1.enc, List.map_cons, List.map_nil] at hs1 hs2 hs3 hs4 ⊢
 generalize zy.zi sums = e1 at *
 generalize zy.zi sums' = e2 at *
 generalize strs zz = e3 at *
 generalize strs needs' = e4 at *
 generalize sums.length = n1 at *
 generalize sums'.length = n2 at *
 generalize zz.length = n3 at *
 generalize needs'.length = n4 at *
 apply zu
 refine zw rfl Tryz.func63 rfl (by kernel_rfl) ?_
 unfold Tryz.f63
 cases q1 : (source == source') with
 | false => simp (disch := ((try simp only [LL]); omega)) only [↓GO, ↓DRW, GA, GX, ren, zn, za, refs, z8, cst, zr, isC, bin, una, z7, zd, blt, asArg, zg, zc, zf, z6, E.mkS, unN, ze, zq, zb, GS, simprocAttr, GZ, q1, zF, bne, Bool.not_false]
 | true =>
  cases q2 : ((n1 : Int) == (n2 : Int)) with
  | false => simp (disch := ((try simp only [LL]); omega)) only [↓GO, ↓DRW, GA, GX, ren, zn, za, refs, z8, cst, zr, isC, bin, una, z7, zd, blt, asArg, zg, zc, zf, z6, E.mkS, unN, ze, zq, zb, GS, simprocAttr, GZ, q1, q2, hs1, hs2, zF, bne, Bool.not_false, Bool.not_true]
  | true =>
   cases q3 : (dev == dev') with
   | false => simp (disch := ((try simp only [LL]); omega)) only [↓GO, ↓DRW, GA, GX, ren, zn, za, refs, z8, cst, zr, isC, bin, una, z7, zd, blt, asArg, zg, zc, zf, z6, E.mkS, unN, ze, zq, zb, GS, simprocAttr, GZ, q1, q2, q3, hs1, hs2, zF, bne, Bool.not_false, Bool.not_true]
   | true =>
    cases q4 : ((n3 : Int) == (n4 : Int)) with
    | false => simp (disch := ((try simp only [LL]); omega)) only [↓GO, ↓DRW, GA, GX, ren, zn, za, refs, z8, cst, zr, isC, bin, una, z7, zd, blt, asArg, zg, zc, zf, z6, E.mkS, unN, ze, zq, zb, GS, simprocAttr, GZ, q1, q2, q3, q4, hs1, hs2, hs3, hs4, zF, bne, Bool.not_false, Bool.not_true]
    | true => simp (disch := ((try simp only [LL]); omega)) only [↓GO, ↓DRW, GA, GX, ren, zn, za, refs, z8, cst, zr, isC, bin, una, z7, zd, blt, asArg, zg, zc, zf, z6, E.mkS, unN, ze, zq, zb, GS, simprocAttr, GZ, q1, q2, q3, q4, hs1, hs2, hs3, hs4, zF, bne, Bool.not_false, Bool.not_true]
set_option maxHeartbeats 2000000 in
theorem Qy (p : z1) (hp : p.zV ≤ 1048576) (h : zx) (hB : GB h) : zm (EV Tryz.prog pol) 65 [.agg (p.enc.map .t), .agg (h.enc.map .t)] = some (.t (.str (yW xy h p))) := by
 have d1 := oF p (by omega)
 have d2 := hU h (keyOf p) hB
 unfold yW
 cases hf : xN h.packs (keyOf p) with
 | none =>
  rw [pA hf] at d2
  simp only [ixI] at d2
  simp only
  clear hB hf
  unfold lJ
  generalize keyOf p = k at *
  obtain ⟨name, version, source, sums, dev, zz⟩ := p
  obtain ⟨top, packs⟩ := h
  simp only [z1.enc, zx.enc, List.map_cons, List.map_nil] at d1 d2 ⊢
  apply zu
  refine zw rfl Tryz.func65 rfl (by kernel_rfl) ?_
  unfold Tryz.f65
  simp (disch := ((try simp only [LL]); omega)) only [↓GO, ↓DRW, GA, GX, ren, zn, za, refs, z8, cst, zr, isC, bin, una, z7, zd, blt, asArg, zg, zc, zf, z6, E.mkS, unN, ze, zq, zb, GS, simprocAttr, GZ, d1, d2, zF]
  try (refine yQ (by kernel_rfl) ?_; first | rfl | simp (disch := ((try simp only [LL]); omega)) only [↓GO, ↓DRW, GA, GX, ren, zn, za, refs, z8, cst, zr, isC, bin, una, z7, zd, blt, asArg, zg, zc, zf, z6, E.mkS, unN, ze, zq, zb, GS, simprocAttr, GZ, d1, d2, zF])
 | some q =>
  obtain ⟨hq, hkq, i, hi, hqi⟩ := vK hf
  rw [hi] at d2
  have c2 : decide ((i : Int) < 0) = false := by apply decide_eq_false; omega
  have hget : (z1.zi h.packs)[i]? = some q.enc := by unfold z1.zi; rw [List.getElem?_map, hqi]; rfl
  have hlen : i < h.packs.length := (List.getElem?_eq_some_iff.1 hqi).1
  have hpl := hB.len.1
  have hsl := (kF hp).1
  have hnl := (kF hp).2
  have d3 := QC p.sums q.sums (by omega)
  have d4 := RS p.zz q.zz (by omega)
  simp only [ixI] at d2
  simp only
  unfold xy nC ZX Rf gg
  clear hB hf hq hkq hi hqi hp hsl hnl hlen hpl
  generalize keyOf p = k at *
  obtain ⟨name, version, source, sums, dev, zz⟩ := p
  obtain ⟨name', version', source', sums', dev', needs'⟩ := q
  obtain ⟨top, packs⟩ := h
  simp only [z1.enc, zx.enc, List.map_cons, List.map_nil] at d1 d2 d3 d4 hget ⊢
  generalize (wG sums == wG sums') = b2 at *
  generalize (zz == needs') = b4 at *
  cases q1 : (source == source') <;> cases b2 <;> cases q3 : (dev == dev') <;> cases b4
  all_goals
   apply zu
   refine zw rfl Tryz.func65 rfl (by kernel_rfl) ?_
   unfold Tryz.f65
   simp (disch := ((try simp only [LL]); omega)) only [↓GO, ↓DRW, GA, GX, ren, zn, za, refs, z8, cst, zr, isC, bin, una, z7, zd, blt, asArg, zg, zc, zf, z6, E.mkS, unN, ze, zq, zb, GS, simprocAttr, GZ, d1, d2, d3, d4, c2, hget, q1, q3, bne, Bool.not_false, Bool.not_true, zF]
   try (refine yQ (by kernel_rfl) ?_; first | rfl | simp (disch := ((try simp only [LL]); omega)) only [↓GO, ↓DRW, GA, GX, ren, zn, za, refs, z8, cst, zr, isC, bin, una, z7, zd, blt, asArg, zg, zc, zf, z6, E.mkS, unN, ze, zq, zb, GS, simprocAttr, GZ, d1, d2, d3, d4, c2, hget, q1, q3, bne, Bool.not_false, Bool.not_true, zF])
theorem j5 (p : z1) (hb : p.zV ≤ 1048576) (l : z1 → z1 → Str) (hl : ∀ p q, (l p q).length ≤ 6) (h : zx) : (keyOf p).length ≤ 1048577 ∧ (yW l h p).length ≤ 6 := ⟨by have := Sj p; omega, cu l hl h p⟩
set_option maxHeartbeats 4000000 in
theorem Y5 (T : List Str) (P : List z1) (hB : GB ⟨T, P⟩) (cs : List z1) (hl : cs.length ≤ 1048576) (hb : ∀ c ∈ cs, c.zV ≤ 1048576) : ∀ (rest pre : List z1) (acc : List Str) (m : Nat) (cap : Option Nat), cs = pre ++ rest → m = acc.length → m + rest.length ≤ 1073741824 → ∃ cap',
 EV Tryz.prog pol (.loop 15 250 0 [.ptr 0 0 0, .sl 1 0 m cap, .t (.list 6 (z1.zi cs)), .t (.int .i64 (cs.length : Int)), .t (.int .i64 (pre.length : Int))] [.vs 2 [[.sl 2 0 T.length none, .sl 3 0 P.length none]], .ts 1 (strs acc), .ts 1 (strs T), .vs 6 (ocE (z1.zi P))])
  = some (.loop (.exit 0) [.sl 0 0 (acc ++ rest.flatMap (vM xy ⟨T, P⟩)).length cap'] [.ts 1 (strs (acc ++ rest.flatMap (vM xy ⟨T, P⟩)))])
 | [], pre, acc, m, cap, hs, hm, hmM => by
  have c : decide ((pre.length : Int) < (cs.length : Int)) = false := by simp [hs]
  refine ⟨cap, ?_⟩
  rw [List.flatMap_nil, List.append_nil, ← hm]
  clear hB
  refine zk Tryz.func15 rfl rfl ?_
  simp (disch := ((try simp only [LL]); omega)) only [↓GO, ↓DRW, GA, GX, ren, zn, za, refs, z8, cst, zr, isC, bin, una, z7, zd, blt, asArg, zg, zc, zf, z6, E.mkS, unN, ze, zq, zb, GS, simprocAttr, zD, zE, yK, yD, yI, yH, yL, gh1, yC, yr, yw, zO, mkO, yx, yt, y7, yJ, zI, yB, yA, y9, oc, oTs, oT, zM, zM.rowTs, yv, isL, Bool.not_false, Bool.true_and, Bool.and_true, Bool.and_self, List.flatMap_append, List.map_append, List.set_cons_zero, List.set_cons_succ, GZ, c, zF]
 | x :: rest, pre, acc, m, cap, hs, hm, hmM => by
  have c : decide ((pre.length : Int) < (cs.length : Int)) = true := by simp [hs]; omega
  have c0 : decide ((0 : Int) ≤ (pre.length : Int)) = true := by simp
  have hget : (z1.zi cs)[pre.length]? = some x.enc := by rw [hs]; simp [z1.zi]
  have hlen : pre.length + rest.length + 1 ≤ cs.length := by rw [hs]; simp; omega
  have hbx := hb x (by rw [hs]; simp)
  have d1 := Qy x hbx ⟨T, P⟩ hB
  have d2 := oF x (by omega)
  obtain ⟨hk1, hk2⟩ := j5 x hbx xy cx ⟨T, P⟩
  have hsl : (strs acc).length = m := by rw [zh, hm]
  have ht1 : (strs T).take T.length = strs T := by rw [← zh T]; simp
  have ht2 : (ocE (z1.zi P)).take P.length = ocE (z1.zi P) := List.take_of_length_le (by rw [zT, z1.zj]; exact Nat.le_refl _)
  simp only [List.length_cons] at hmM
  rw [mz]
  unfold vM
  cases q : (yW xy ⟨T, P⟩ x == []) with
  | true =>
   obtain ⟨cap', IH⟩ := Y5 T P hB cs hl hb rest (pre ++ [x]) acc m cap (by rw [hs]; simp) hm (by omega)
   rw [show ((pre ++ [x]).length : Int) = (pre.length : Int) + 1 by simp] at IH
   refine ⟨cap', ?_⟩
   rw [cond_true, List.nil_append]
   unfold vM at IH
   generalize acc ++ rest.flatMap _ = Z at *
   generalize yW xy ⟨T, P⟩ x = lo at *
   generalize keyOf x = kx at *
   clear hs hB hbx
   obtain ⟨name, version, source, sums, dev, zz⟩ := x
   simp only [z1.enc, zx.enc, List.map_cons, List.map_nil] at hget d1 d2 IH ⊢
   refine zk Tryz.func15 rfl rfl ?_
   simp (disch := ((try simp only [LL]); omega)) only [↓GO, ↓DRW, GA, GX, ren, zn, za, refs, z8, cst, zr, isC, bin, una, z7, zd, blt, asArg, zg, zc, zf, z6, E.mkS, unN, ze, zq, zb, GS, simprocAttr, zD, zE, yK, yD, yI, yH, yL, gh1, yC, yr, yw, zO, mkO, yx, yt, y7, yJ, zI, yB, yA, y9, oc, oTs, oT, zM, zM.rowTs, yv, isL, Bool.not_false, Bool.true_and, Bool.and_true, Bool.and_self, List.flatMap_append, List.map_append, List.set_cons_zero, List.set_cons_succ, GZ, c, c0, hget, d1, ht1, ht2, List.drop_zero, wI, zZ, zR, q, bne, Bool.not_true, zo, zF, IH]
  | false =>
   obtain ⟨cap', IH⟩ := Y5 T P hB cs hl hb rest (pre ++ [x]) (acc ++ [(keyOf x ++ [32]) ++ yW xy ⟨T, P⟩ x]) (m + 1) none (by rw [hs]; simp) (by simp [hm]) (by omega)
   rw [show ((pre ++ [x]).length : Int) = (pre.length : Int) + 1 by simp, show strs (acc ++ [(keyOf x ++ [32]) ++ yW xy ⟨T, P⟩ x]) = strs acc ++ [[.str ((keyOf x ++ [32]) ++ yW xy ⟨T, P⟩ x)]] by simp [strs]] at IH
   refine ⟨cap', ?_⟩
   rw [cond_false, ← List.append_assoc]
   unfold vM at IH
   generalize (acc ++ [(keyOf x ++ [32]) ++ yW xy ⟨T, P⟩ x]) ++ rest.flatMap _ = Z at *
   generalize yW xy ⟨T, P⟩ x = lo at *
   generalize keyOf x = kx at *
   clear hs hB hbx
   obtain ⟨name, version, source, sums, dev, zz⟩ := x
   simp only [z1.enc, zx.enc, List.map_cons, List.map_nil] at hget d1 d2 IH ⊢
   refine zk Tryz.func15 rfl rfl ?_
   simp (disch := ((try simp only [LL]); omega)) only [↓GO, ↓DRW, GA, GX, ren, zn, za, refs, z8, cst, zr, isC, bin, una, z7, zd, blt, asArg, zg, zc, zf, z6, E.mkS, unN, ze, zq, zb, GS, simprocAttr, zD, zE, yK, yD, yI, yH, yL, gh1, yC, yr, yw, zO, mkO, yx, yt, y7, yJ, zI, yB, yA, y9, oc, oTs, oT, zM, zM.rowTs, yv, isL, Bool.not_false, Bool.true_and, Bool.and_true, Bool.and_self, List.flatMap_append, List.map_append, List.set_cons_zero, List.set_cons_succ, GZ, c, c0, hget, d1, d2, ht1, ht2, hsl, List.drop_zero, wI, zZ, zR, q, bne, Bool.not_false, zo, List.length_append, List.length_singleton, yY, zF, IH]
theorem aD (f : Int) (g : zx) (hB : GB g) : GB (xL f g) := by
 have hfl : ∀ (q : zy → Bool) (l : List zy), (l.filter q).length ≤ l.length ∧ zy.zK (l.filter q) ≤ zy.zK l := qx
 have hnr := oW
 have hmap : ∀ (w : z1 → z1) (hw : ∀ x, (w x).zV ≤ x.zV) (l : List z1), (l.map w).length = l.length ∧ z1.zK (l.map w) ≤ z1.zK l := fun w hw l => by
  induction l with
  | nil => simp
  | cons a r ih =>
   have := hw a
   simp only [List.map_cons, List.length_cons, z1.zK]
   omega
 have hfil : ∀ (q : z1 → Bool) (l : List z1), (l.filter q).length ≤ l.length ∧ z1.zK (l.filter q) ≤ z1.zK l := fun q l => by
  induction l with
  | nil => simp
  | cons a r ih =>
   rw [List.filter_cons]
   cases q a <;> simp only [Bool.false_eq_true, if_true, if_false, List.length_cons, z1.zK] <;> omega
 have happ : ∀ (l : List z1) (p : z1), z1.zK (l ++ [p]) = z1.zK l + p.zV := fun l p => by
  induction l with
  | nil => simp [z1.zK]
  | cons a r ih => simp only [List.cons_append, z1.zK, ih]; omega
 have hded : ∀ (l acc : List z1), (wq acc l).length ≤ acc.length + l.length ∧ z1.zK (wq acc l) ≤ z1.zK acc + z1.zK l := fun l => by
  induction l with
  | nil => intro acc; rw [wq]; simp
  | cons p r ih =>
   intro acc
   rw [wq]
   cases acc.any (xW p) with
   | true => have := ih acc; rw [cond_true]; simp only [List.length_cons, z1.zK]; omega
   | false => have := ih (acc ++ [p]); rw [happ] at this; rw [cond_false]; simp only [List.length_append, List.length_cons, List.length_nil, z1.zK] at this ⊢; omega
 unfold xL
 cases vi f && y6 g with
 | false => exact hB
 | true =>
  rw [cond_true]
  unfold GB zx.zV at hB ⊢
  unfold vN
  have h1 : (aF f g).length ≤ g.packs.length ∧ z1.zK (aF f g) ≤ z1.zK g.packs := by
   unfold aF
   cases f == 0 <;> simp only [cond_true, cond_false]
   · cases f == 2 <;> simp only [cond_true, cond_false]
     · cases f == 3 <;> simp only [cond_true, cond_false]
       · cases f == 4 <;> simp only [cond_true, cond_false]
         · exact ⟨Nat.le_refl _, Nat.le_refl _⟩
         · have := hded g.packs []; simpa [z1.zK] using this
       · exact hfil _ _
     · have h2 := hfil (fun p => !(p.name == xk)) g.packs
       have h3 := hmap xn hnr (g.packs.filter fun p => !(p.name == xk))
       omega
   · exact hfil _ _
  have h4 := hmap (zU f) (tQ f) (aF f g)
  have h5 : (Re f g).length + yb (Re f g) ≤ g.top.length + yb g.top := by
   unfold Re
   cases f == 0 <;> simp only [cond_true, cond_false]
   · cases f == 2 <;> simp only [cond_true, cond_false]
     · simp [yb]
     · exact qy _ g.top
   · exact Nat.le_refl _
  simp only
  omega
theorem TJ (a b : List Str) : (a == b) = (b == a) := by
 cases h : (b == a) with
 | true => rw [eq_of_beq h]; simp
 | false => rw [beq_eq_false_iff_ne] at h ⊢; exact fun e => h e.symm
set_option maxHeartbeats 4000000 in
theorem c_loI (f : Int) (g : zx) (hB : GB g) (hg : y6 g = true) : ∃ cap,
 EV Tryz.prog pol (.callO false 15 [.t (.int .i64 f), .agg [.t (.list 1 (strs g.top)), .t (.list 6 (z1.zi g.packs))]] []) = some (.call (.sl 0 0 (u7 xy (xL f g) g).length cap) [.ts 1 (strs (u7 xy (xL f g) g))]) := by
 have d1 := uT g hB
 rw [hg] at d1
 have d2 := c_pjI f g hB
 have hB2 := aD f g hB
 unfold PjI at d2
 have hb := hB.len
 have hb2 := hB2.len
 generalize xL f g = h at *
 obtain ⟨T, P⟩ := h
 simp only at d2 hb2
 have d3 := RS T g.top (by omega)
 rw [TJ] at d3
 unfold u7
 simp only
 have ht1 : (strs T).take T.length = strs T := by rw [← zh T]; simp
 cases q : (g.top == T) with
 | true =>
  rw [q] at d3
  obtain ⟨cap, L⟩ := Y5 T P hB2 g.packs (by omega) hb.2.2 g.packs [] [] 0 (some 0) rfl rfl (by omega)
  refine ⟨cap, ?_⟩
  simp only [List.length_nil, Int.natCast_zero, List.nil_append, show strs [] = [] from rfl] at L
  rw [cond_true, List.nil_append]
  generalize g.packs.flatMap _ = Z at *
  clear hB hB2 hb hb2 hg
  obtain ⟨top, packs⟩ := g
  simp only [zx.enc, List.map_cons, List.map_nil] at d1 d2 d3 L ⊢
  refine zN Tryz.func15 rfl (by kernel_rfl) ?_
  unfold Tryz.f15
  simp (disch := ((try simp only [LL]); omega)) only [↓GO, ↓DRW, GA, GX, ren, zn, za, refs, z8, cst, zr, isC, bin, una, z7, zd, blt, asArg, zg, zc, zf, z6, E.mkS, unN, ze, zq, zb, GS, simprocAttr, zD, zE, yK, yD, yI, yH, yL, gh1, yC, yr, yw, zO, mkO, yx, yt, y7, yJ, zI, yB, yA, y9, oc, oTs, oT, zM, zM.rowTs, yv, isL, Bool.not_false, Bool.true_and, Bool.and_true, Bool.and_self, List.flatMap_append, List.map_append, List.set_cons_zero, List.set_cons_succ, GZ, d1, d2, d3, L, ht1, z1.zj, List.drop_zero, zZ, zR, Bool.not_true, zF]
 | false =>
  rw [q] at d3
  obtain ⟨cap, L⟩ := Y5 T P hB2 g.packs (by omega) hb.2.2 g.packs [] [au] 1 none rfl rfl (by omega)
  refine ⟨cap, ?_⟩
  simp only [List.length_nil, Int.natCast_zero, show strs [au] = [[.str [116, 111, 112]]] from rfl] at L
  rw [cond_false]
  generalize [au] ++ g.packs.flatMap _ = Z at *
  clear hB hB2 hb hb2 hg
  obtain ⟨top, packs⟩ := g
  simp only [zx.enc, List.map_cons, List.map_nil] at d1 d2 d3 L ⊢
  refine zN Tryz.func15 rfl (by kernel_rfl) ?_
  unfold Tryz.f15
  simp (disch := ((try simp only [LL]); omega)) only [↓GO, ↓DRW, GA, GX, ren, zn, za, refs, z8, cst, zr, isC, bin, una, z7, zd, blt, asArg, zg, zc, zf, z6, E.mkS, unN, ze, zq, zb, GS, simprocAttr, zD, zE, yK, yD, yI, yH, yL, gh1, yC, yr, yw, zO, mkO, yx, yt, y7, yJ, zI, yB, yA, y9, oc, oTs, oT, zM, zM.rowTs, yv, isL, Bool.not_false, Bool.true_and, Bool.and_true, Bool.and_self, List.flatMap_append, List.map_append, List.set_cons_zero, List.set_cons_succ, GZ, d1, d2, d3, L, ht1, z1.zj, List.drop_zero, zZ, zR, Bool.not_true, Bool.not_false, zF, yY]
theorem Vo (f : Int) (g : zx) (hB : GB g) (hg : y6 g = false) :
 EV Tryz.prog pol (.callO false 15 [.t (.int .i64 f), .agg [.t (.list 1 (strs g.top)), .t (.list 6 (z1.zi g.packs))]] []) = some (.call (.nil 1) []) := by
 have d1 := uT g hB
 rw [hg] at d1
 clear hB hg
 obtain ⟨top, packs⟩ := g
 simp only [zx.enc, List.map_cons, List.map_nil] at d1 ⊢
 refine zN Tryz.func15 rfl (by kernel_rfl) ?_
 unfold Tryz.f15
 simp (disch := ((try simp only [LL]); omega)) only [↓GO, ↓DRW, GA, GX, ren, zn, za, refs, z8, cst, zr, isC, bin, una, z7, zd, blt, asArg, zg, zc, zf, z6, E.mkS, unN, ze, zq, zb, GS, simprocAttr, zD, zE, yK, yD, yI, yH, yL, gh1, yC, yr, yw, zO, mkO, yx, yt, y7, yJ, zI, yB, yA, y9, oc, oTs, oT, zM, zM.rowTs, yv, isL, Bool.not_false, Bool.true_and, Bool.and_true, Bool.and_self, List.flatMap_append, List.map_append, List.set_cons_zero, List.set_cons_succ, GZ, d1, Bool.not_false, zF]
set_option maxHeartbeats 4000000 in
theorem Tu (h : zx) (hB : GB h) (gt : T) (cs : List z1) (hl : cs.length ≤ 1048576) (hb : ∀ c ∈ cs, c.zV ≤ 1048576) : ∀ (rest pre : List z1) (acc : List Str) (m : Nat) (cap : Option Nat), cs = pre ++ rest → m = acc.length → m + rest.length ≤ 1073741824 → ∃ cap',
 EV Tryz.prog pol (.loop 14 506 0 [.ptr 0 0 0, .sl 1 0 m cap, .ptr 2 0 0, .t (.int .i64 (pre.length : Int))] [.vs 2 [[.t gt, .t (.list 6 (z1.zi cs))]], .ts 1 (strs acc), .vs 2 [h.enc.map .t]])
  = some (.loop (.exit 0) [.sl 0 0 (acc ++ rest.flatMap (vM yT h)).length cap'] [.ts 1 (strs (acc ++ rest.flatMap (vM yT h)))])
 | [], pre, acc, m, cap, hs, hm, hmM => by
  have c : decide ((pre.length : Int) < (cs.length : Int)) = false := by simp [hs]
  refine ⟨cap, ?_⟩
  rw [List.flatMap_nil, List.append_nil, ← hm]
  clear hB
  obtain ⟨top, packs⟩ := h
  simp only [zx.enc, List.map_cons, List.map_nil]
  refine zk Tryz.func14 rfl rfl ?_
  simp (disch := ((try simp only [LL]); omega)) only [↓GO, ↓DRW, GA, GX, ren, zn, za, refs, z8, cst, zr, isC, bin, una, z7, zd, blt, asArg, zg, zc, zf, z6, E.mkS, unN, ze, zq, zb, GS, simprocAttr, GZ, c, z1.zj, zF]
 | x :: rest, pre, acc, m, cap, hs, hm, hmM => by
  have c : decide ((pre.length : Int) < (cs.length : Int)) = true := by simp [hs]; omega
  have c0 : decide ((0 : Int) ≤ (pre.length : Int)) = true := by simp
  have hget : (z1.zi cs)[pre.length]? = some x.enc := by rw [hs]; simp [z1.zi]
  have hlen : pre.length + rest.length + 1 ≤ cs.length := by rw [hs]; simp; omega
  have hbx := hb x (by rw [hs]; simp)
  have d1 := iZ h (keyOf x) hB
  have d2 := qO x (by omega)
  obtain ⟨hk1, hk2⟩ := j5 x hbx yT cw h
  have hsl : (strs acc).length = m := by rw [zh, hm]
  have ph := hB.len.1
  simp only [List.length_cons] at hmM
  rw [mz]
  have hcase : (tJ h.packs (keyOf x) = none ∧ yW yT h x = lJ) ∨ ∃ i q, tJ h.packs (keyOf x) = some i ∧ (z1.zi h.packs)[i]? = some q.enc ∧ i < h.packs.length ∧ yW yT h x = yT x q := by
   unfold yW
   cases hf : xN h.packs (keyOf x) with
   | none => exact .inl ⟨pA hf, rfl⟩
   | some q =>
    obtain ⟨hq, hkq, i, hi, hqi⟩ := vK hf
    exact .inr ⟨i, q, hi, by unfold z1.zi; rw [List.getElem?_map, hqi]; rfl, (List.getElem?_eq_some_iff.1 hqi).1, rfl⟩
  have IHf := fun hq : (yW yT h x == []) = false => Tu h hB gt cs hl hb rest (pre ++ [x]) (acc ++ [(keyOf x ++ [32]) ++ yW yT h x]) (m + 1) none (by rw [hs]; simp) (by simp [hm]) (by omega)
  have IHt := fun hq : (yW yT h x == []) = true => Tu h hB gt cs hl hb rest (pre ++ [x]) acc m cap (by rw [hs]; simp) hm (by omega)
  rw [show ((pre ++ [x]).length : Int) = (pre.length : Int) + 1 by simp] at IHt
  rw [show ((pre ++ [x]).length : Int) = (pre.length : Int) + 1 by simp, show strs (acc ++ [(keyOf x ++ [32]) ++ yW yT h x]) = strs acc ++ [[.str ((keyOf x ++ [32]) ++ yW yT h x)]] by simp [strs]] at IHf
  have eL : vM yT h x = cond (yW yT h x == []) [] [(keyOf x ++ [32]) ++ yW yT h x] := rfl
  rw [eL]
  generalize rest.flatMap (vM yT h) = Zr at *
  generalize yW yT h x = lo at *
  clear hs hB hbx eL
  rcases hcase with ⟨hf, rfl⟩ | ⟨i, q, hf, hgi, hil, rfl⟩
  · rw [hf] at d1
    obtain ⟨cap', IH⟩ := IHf rfl
    refine ⟨cap', ?_⟩
    rw [show (lJ == []) = false from rfl, cond_false, ← List.append_assoc]
    generalize (acc ++ [(keyOf x ++ [32]) ++ lJ]) ++ Zr = Z at *
    clear IHf IHt
    unfold lJ at *
    simp only [ixI] at d1
    generalize keyOf x = kx at *
    obtain ⟨name, version, source, sums, dev, zz⟩ := x
    obtain ⟨top, packs⟩ := h
    simp only [z1.enc, zx.enc, List.map_cons, List.map_nil] at hget d1 d2 IH ⊢
    refine zk Tryz.func14 rfl rfl ?_
    have hgn : (([103, 111, 110, 101] : List UInt8) == []) = false := rfl
    simp (disch := ((try simp only [LL]); omega)) only [↓GO, ↓DRW, GA, GX, ren, zn, za, refs, z8, cst, zr, isC, bin, una, z7, zd, blt, asArg, zg, zc, zf, z6, E.mkS, unN, ze, zq, zb, GS, simprocAttr, GZ, c, c0, hget, d1, d2, hsl, hgn, z1.zj, bne, Bool.not_false, Bool.not_true, zo, List.length_append, List.length_cons, List.length_nil, yY, zF, IH]
  · rw [hf] at d1
    have d3 := c_l1R x q
    have c2 : decide ((i : Int) ≥ 0) = true := by simp
    simp only [ixI] at d1
    cases hq : (yT x q == []) with
    | true =>
     obtain ⟨cap', IH⟩ := IHt hq
     refine ⟨cap', ?_⟩
     rw [cond_true, List.nil_append]
     generalize acc ++ Zr = Z at *
     clear IHf IHt
     generalize yT x q = lo at *
     generalize keyOf x = kx at *
     obtain ⟨name, version, source, sums, dev, zz⟩ := x
     obtain ⟨name', version', source', sums', dev', needs'⟩ := q
     obtain ⟨top, packs⟩ := h
     simp only [z1.enc, zx.enc, List.map_cons, List.map_nil] at hget hgi d1 d2 d3 IH ⊢
     refine zk Tryz.func14 rfl rfl ?_
     simp (disch := ((try simp only [LL]); omega)) only [↓GO, ↓DRW, GA, GX, ren, zn, za, refs, z8, cst, zr, isC, bin, una, z7, zd, blt, asArg, zg, zc, zf, z6, E.mkS, unN, ze, zq, zb, GS, simprocAttr, GZ, c, c0, c2, hget, hgi, d1, d2, d3, hsl, z1.zj, hq, bne, Bool.not_false, Bool.not_true, zo, zF, IH]
     all_goals (try (refine yQ (by kernel_rfl) ?_; first | rfl | simp (disch := ((try simp only [LL]); omega)) only [↓GO, ↓DRW, GA, GX, ren, zn, za, refs, z8, cst, zr, isC, bin, una, z7, zd, blt, asArg, zg, zc, zf, z6, E.mkS, unN, ze, zq, zb, GS, simprocAttr, GZ, c, c0, c2, hget, hgi, d1, d2, d3, hsl, z1.zj, hq, bne, Bool.not_false, Bool.not_true, zo, zF, IH]))
    | false =>
     obtain ⟨cap', IH⟩ := IHf hq
     refine ⟨cap', ?_⟩
     rw [cond_false, ← List.append_assoc]
     generalize (acc ++ [(keyOf x ++ [32]) ++ yT x q]) ++ Zr = Z at *
     clear IHf IHt
     generalize yT x q = lo at *
     generalize keyOf x = kx at *
     obtain ⟨name, version, source, sums, dev, zz⟩ := x
     obtain ⟨name', version', source', sums', dev', needs'⟩ := q
     obtain ⟨top, packs⟩ := h
     simp only [z1.enc, zx.enc, List.map_cons, List.map_nil] at hget hgi d1 d2 d3 IH ⊢
     refine zk Tryz.func14 rfl rfl ?_
     simp (disch := ((try simp only [LL]); omega)) only [↓GO, ↓DRW, GA, GX, ren, zn, za, refs, z8, cst, zr, isC, bin, una, z7, zd, blt, asArg, zg, zc, zf, z6, E.mkS, unN, ze, zq, zb, GS, simprocAttr, GZ, c, c0, c2, hget, hgi, d1, d2, d3, hsl, z1.zj, hq, bne, Bool.not_false, Bool.not_true, zo, List.length_append, List.length_cons, List.length_nil, yY, zF, IH]
     all_goals (try (refine yQ (by kernel_rfl) ?_; first | rfl | simp (disch := ((try simp only [LL]); omega)) only [↓GO, ↓DRW, GA, GX, ren, zn, za, refs, z8, cst, zr, isC, bin, una, z7, zd, blt, asArg, zg, zc, zf, z6, E.mkS, unN, ze, zq, zb, GS, simprocAttr, GZ, c, c0, c2, hget, hgi, d1, d2, d3, hsl, z1.zj, hq, bne, Bool.not_false, Bool.not_true, zo, List.length_append, List.length_cons, List.length_nil, yY, zF, IH]))
theorem TY (f : Int) (g : zx) (hB : GB g) : zm (EV Tryz.prog pol) 8 [.t (.int .i64 f), .agg (g.enc.map .t)] = some (.agg ((xL f g).enc.map .t)) := by
 unfold xL
 cases q : vi f && y6 g with
 | false => exact Vh f g hB q
 | true =>
  rw [Bool.and_eq_true] at q
  rw [cond_true, ← Yv f (pz q.1) g q.2]
  exact c_pjR f q.1 g hB q.2
set_option maxHeartbeats 4000000 in
theorem c_loR (f : Int) (g : zx) (hB : GB g) (hg : y6 g = true) : zm (EV Tryz.prog pol) 14 [.t (.int .i64 f), .agg (g.enc.map .t)] = some (.t (.list 1 (strs (u7 yT (xL f g) g)))) := by
 have d1 := oG g hB
 rw [hg] at d1
 have d2 := TY f g hB
 have hB2 := aD f g hB
 have hb := hB.len
 have hb2 := hB2.len
 generalize xL f g = h at *
 have d3 := c_eqR g.top h.top (by omega)
 unfold u7
 have main : ∀ (acc : List Str) (hacc : acc.length ≤ 1) (cap : Option Nat), ∃ cap', _ := fun acc hacc cap => Tu h hB2 (.list 1 (strs g.top)) g.packs (by omega) hb.2.2 g.packs [] acc acc.length cap rfl rfl (by omega)
 cases q : (g.top == h.top) with
 | true =>
  rw [q] at d3
  obtain ⟨cap, L⟩ := main [] (by simp) (some 0)
  simp only [List.length_nil, Int.natCast_zero, List.nil_append, show strs [] = [] from rfl] at L
  rw [cond_true, List.nil_append]
  generalize g.packs.flatMap _ = Z at *
  have ht : (strs Z).take Z.length = strs Z := by rw [← zh Z]; simp
  clear hB hB2 hb hb2 hg main
  obtain ⟨top, packs⟩ := g
  obtain ⟨T, P⟩ := h
  simp only [zx.enc, List.map_cons, List.map_nil] at d1 d2 d3 L ⊢
  apply zu
  refine zw rfl Tryz.func14 rfl (by kernel_rfl) ?_
  unfold Tryz.f14
  simp (disch := ((try simp only [LL]); omega)) only [↓GO, ↓DRW, GA, GX, ren, zn, za, refs, z8, cst, zr, isC, bin, una, z7, zd, blt, asArg, zg, zc, zf, z6, E.mkS, unN, ze, zq, zb, GS, simprocAttr, GZ, d1, d2, d3, L, ht, Bool.not_true, zF]
 | false =>
  rw [q] at d3
  obtain ⟨cap, L⟩ := main [au] (by simp) none
  simp only [List.length_nil, List.length_cons, Nat.zero_add, Int.natCast_zero, show strs [au] = [[.str [116, 111, 112]]] from rfl] at L
  rw [cond_false]
  generalize [au] ++ g.packs.flatMap _ = Z at *
  have ht : (strs Z).take Z.length = strs Z := by rw [← zh Z]; simp
  clear hB hB2 hb hb2 hg main
  obtain ⟨top, packs⟩ := g
  obtain ⟨T, P⟩ := h
  simp only [zx.enc, List.map_cons, List.map_nil] at d1 d2 d3 L ⊢
  apply zu
  refine zw rfl Tryz.func14 rfl (by kernel_rfl) ?_
  unfold Tryz.f14
  simp (disch := ((try simp only [LL]); omega)) only [↓GO, ↓DRW, GA, GX, ren, zn, za, refs, z8, cst, zr, isC, bin, una, z7, zd, blt, asArg, zg, zc, zf, z6, E.mkS, unN, ze, zq, zb, GS, simprocAttr, GZ, d1, d2, d3, L, ht, Bool.not_true, Bool.not_false, zF, yY]
theorem Vn (f : Int) (g : zx) (hB : GB g) (hg : y6 g = false) : zm (EV Tryz.prog pol) 14 [.t (.int .i64 f), .agg (g.enc.map .t)] = some (.t (.list 1 [])) := by
 have d1 := oG g hB
 rw [hg] at d1
 clear hB hg
 obtain ⟨top, packs⟩ := g
 simp only [zx.enc, List.map_cons, List.map_nil] at d1 ⊢
 apply zu
 refine zw rfl Tryz.func14 rfl (by kernel_rfl) ?_
 unfold Tryz.f14
 simp (disch := ((try simp only [LL]); omega)) only [↓GO, ↓DRW, GA, GX, ren, zn, za, refs, z8, cst, zr, isC, bin, una, z7, zd, blt, asArg, zg, zc, zf, z6, E.mkS, unN, ze, zq, zb, GS, simprocAttr, GZ, d1, Bool.not_false, zF]
theorem lossT (f : Int) (g : zx) (hg : y6 g = true) : u7 xy (xL f g) g = u7 yT (xL f g) g := by
 unfold xL
 cases q : vi f && y6 g with
 | false => exact YE g hg
 | true => exact YF f g hg
end Go.Proofs.YtonbkdklidfmfaaGreatDoor
/- The law of Project. Conditions: those of each lemma. -/
namespace Go.Proofs.YtonbkdklidfmfaaGreatDoor
open E
set_option linter.unusedSimpArgs false
set_option linter.unusedVariables false
set_option maxRecDepth 100000
end Go.Proofs.YtonbkdklidfmfaaGreatDoor
/- The law of Lossy. Conditions: those of each lemma. -/
namespace Go.Proofs.YtonbkdklidfmfaaGreatDoor
open E
set_option linter.unusedSimpArgs false
set_option linter.unusedVariables false
set_option maxRecDepth 100000
theorem mU (ks : List Str) (n : Nat) (h : n = ks.length) : (strs ks).take n = strs ks := List.take_of_length_le (by rw [zh]; omega)
theorem Wo (cs : List z1) (n : Nat) (h : n = cs.length) : (ocE (z1.zi cs)).take n = ocE (z1.zi cs) := List.take_of_length_le (by rw [zT, z1.zj]; omega)
set_option maxHeartbeats 16000000 in
theorem lY (f : Int) (g : zx) (ho : g.ok) (hb : g.zV ≤ 1048576) :
 EV Tryz.prog pol (.call 4 [.t (.int .i64 f), .agg (g.enc.map .t)] []) = some (.call (.t (.bool true)) []) := by
 have hB : GB g := by unfold GB; omega
 have hsz := jD g ho 1048576 (by omega) (by omega)
 rw [left_eq (by omega)] at hsz
 have c2 : decide (1048576 - (g.zV : Int) < 0) = false := by apply decide_eq_false; omega
 have hto := Qq g (by omega)
 have htO := Qp g (by omega)
 have heqG := X1 g (by omega)
 have hb' := hb
 have hlen := hB.len.1
 obtain ⟨top, packs⟩ := g
 simp only [zx.zV] at hb'
 simp only at hlen
 have hcn := dE packs
 have hM1 := SU top packs (by omega) (by omega) top.length packs.length rfl rfl (some top.length) (some packs.length) 1 (by omega)
 have g1 : decide (((1 + top.length + x9 packs : Nat) : Int) < 0) = false := by apply decide_eq_false; omega
 have t1 := mU top top.length rfl
 have t2 := Wo packs packs.length rfl
 unfold ga at heqG
 unfold Ja at htO
 unfold Jb at hto
 rw [show ((1 : Nat) : Int) = 1 from rfl] at hM1
 cases hg : y6 ⟨top, packs⟩ with
 | true =>
  obtain ⟨cap, hI⟩ := c_loI f ⟨top, packs⟩ hB hg
  have hR := c_loR f ⟨top, packs⟩ hB hg
  have hZl := YG yT (xL f ⟨top, packs⟩) ⟨top, packs⟩
  rw [lossT f _ hg] at hI
  simp only at hI hZl
  generalize u7 yT (xL f ⟨top, packs⟩) ⟨top, packs⟩ = Z at *
  have heqS := uG Z (by omega)
  have hM3 := iY Z (by omega) cap 1 (by omega) Z.length rfl
  have hH := ZN Z.length 1 (by omega) (by omega)
  rw [show ((1 : Nat) : Int) = 1 from rfl] at hM3 hH
  have g2 : decide (((1 + Z.length : Nat) : Int) < 0) = false := by apply decide_eq_false; omega
  have t4 := mU Z Z.length rfl
  have t5 := mU (mkS Z.length 1) Z.length (vX _ _).symm
  have f1 := yp Z
  clear ho hb hb' hB hg hcn hZl hlen
  generalize (zx.mk top packs).zV = bt at *
  simp only [zx.enc, List.map_cons, List.map_nil] at hsz hto htO heqG hR hI hM1 ⊢
  generalize x9 packs = m0 at *
  generalize xY (1 + top.length) packs = mc at *
  generalize mkS Z.length 1 = msz at *
  generalize mkS top.length 1 = ms at *
  refine zw rfl Tryz.func4 rfl (by kernel_rfl) ?_
  unfold Tryz.f4
  simp (disch := ((try simp only [LL]); omega)) only [↓GO, ↓DRW, GA, GX, ren, zn, za, refs, z8, cst, zr, isC, bin, una, z7, zd, blt, asArg, zg, zc, zf, z6, E.mkS, unN, ze, zq, zb, GS, simprocAttr, zD, zE, yK, yD, yI, yH, yL, gh1, yC, yr, yw, zO, mkO, yx, yt, y7, yJ, zI, yB, yA, y9, oc, oTs, oT, zM, zM.rowTs, yv, isL, Bool.not_false, Bool.true_and, Bool.and_true, Bool.and_self, List.flatMap_append, List.map_append, List.set_cons_zero, List.set_cons_succ, GZ, hsz, c2, hto, htO, heqG, heqS, hR, hI, hM1, hM3, hH, g1, g2, t1, t2, t4, t5, f1, List.drop_zero, wI, zZ, zR, bne_self_eq_false, zF]
 | false =>
  have hI := Vo f ⟨top, packs⟩ hB hg
  have hR := Vn f ⟨top, packs⟩ hB hg
  have heqS := uG [] (by simp)
  rw [show strs [] = [] from rfl] at heqS
  have hM3 := Vk 1
  have hH := ZN 0 1 (by omega) (by omega)
  rw [Nat.add_zero, show ((1 : Nat) : Int) = 1 from rfl, show mkS 0 1 = [] from rfl, show strs [] = [] from rfl] at hH
  clear ho hb hb' hB hg hcn hlen
  generalize (zx.mk top packs).zV = bt at *
  simp only [zx.enc, List.map_cons, List.map_nil] at hsz hto htO heqG hR hI hM1 ⊢
  generalize x9 packs = m0 at *
  generalize xY (1 + top.length) packs = mc at *
  generalize mkS top.length 1 = ms at *
  refine zw rfl Tryz.func4 rfl (by kernel_rfl) ?_
  unfold Tryz.f4
  simp (disch := ((try simp only [LL]); omega)) only [↓GO, ↓DRW, GA, GX, ren, zn, za, refs, z8, cst, zr, isC, bin, una, z7, zd, blt, asArg, zg, zc, zf, z6, E.mkS, unN, ze, zq, zb, GS, simprocAttr, zD, zE, yK, yD, yI, yH, yL, gh1, yC, yr, yw, zO, mkO, yx, yt, y7, yJ, zI, yB, yA, y9, oc, oTs, oT, zM, zM.rowTs, yv, isL, Bool.not_false, Bool.true_and, Bool.and_true, Bool.and_self, List.flatMap_append, List.map_append, List.set_cons_zero, List.set_cons_succ, GZ, hsz, c2, hto, htO, heqG, heqS, hR, hI, hM1, hM3, hH, g1, t1, t2, List.drop_zero, wI, zZ, zR, bne_self_eq_false, zF]
theorem cP (f : Int) (g : zx) (ho : g.ok) : EV Tryz.prog pol (.call 4 [.t (.int .i64 f), .agg (g.enc.map .t)] []) = some (.call (.t (.bool true)) []) := by
 by_cases hb : g.zV ≤ 1048576
 · exact lY f g ho hb
 · have hsz := jD g ho 1048576 (by omega) (by omega)
   have hle : left 1048576 g.zV = -1 := if_pos (by omega)
   rw [hle] at hsz
   clear hb hle ho
   obtain ⟨top, packs⟩ := g
   simp only [zx.enc, List.map_cons, List.map_nil] at hsz ⊢
   refine zw rfl Tryz.func4 rfl (by kernel_rfl) ?_
   unfold Tryz.f4
   simp (disch := ((try simp only [LL]); omega)) only [↓GO, ↓DRW, GA, GX, ren, zn, za, refs, z8, cst, zr, isC, bin, una, z7, zd, blt, asArg, zg, zc, zf, z6, E.mkS, unN, ze, zq, zb, GS, simprocAttr, zD, zE, yK, yD, yI, yH, yL, gh1, yC, yr, yw, zO, mkO, yx, yt, y7, yJ, zI, yB, yA, y9, oc, oTs, oT, zM, zM.rowTs, yv, isL, Bool.not_false, Bool.true_and, Bool.and_true, Bool.and_self, List.flatMap_append, List.map_append, List.set_cons_zero, List.set_cons_succ, GZ, hsz]
end Go.Proofs.YtonbkdklidfmfaaGreatDoor
/- The laws of Project and Lossy at what is handed in. Conditions: none. -/
namespace Go.Proofs.YtonbkdklidfmfaaGreatDoor
open E
set_option linter.unusedSimpArgs false
set_option linter.unusedVariables false
set_option maxRecDepth 100000
theorem QP {cs : List T} (h : WT Tryz.prog 3 cs) : ∃ n, cs = [.int .i64 n] := by
 obtain ⟨n, e, _⟩ := h.Sq Tryz.underlying3
 exact ⟨n, e⟩
theorem WQ (xs : List V) (h : WTA Tryz.prog [3, 25] xs) : EV Tryz.prog pol (.call 4 xs []) = some (.call (.t (.bool true)) []) := by
 obtain ⟨cs, v, vs, rfl, h1, h2, h3⟩ := h.eQ
 obtain ⟨cs1, v1, vs1, rfl, k1, k2, k3⟩ := h3.eQ
 have := k3.Sp
 subst this
 obtain ⟨f, rfl⟩ := QP h1
 obtain ⟨a, rfl, oa⟩ := VJ k1
 obtain ⟨ta, pa⟩ := a
 have e0 : zS Tryz.prog 3 = false := by kernel_rfl
 have e : zS Tryz.prog 25 = true := by kernel_rfl
 rw [e0] at h2
 rw [e] at k2
 simp [zd, zx.enc] at h2 k2
 subst h2 k2
 exact cP f ⟨ta, pa⟩ oa
end Go.Proofs.YtonbkdklidfmfaaGreatDoor

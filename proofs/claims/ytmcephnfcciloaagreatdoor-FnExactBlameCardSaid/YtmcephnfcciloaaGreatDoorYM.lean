/- Joined: K21 K22 K23 I3 K27 K24 B10 B11 W10. Conditions: those of each lemma. -/
import Derived.Test.YtmcephnfcciloaaGreatDoorYL
import Derived.Test.YtmcephnfcciloaaGreatDoorYJ
import Derived.Test.YtmcephnfcciloaaGreatDoorYK
set_option linter.unusedVariables false
set_option linter.unusedSimpArgs false
namespace Go.Proofs.YtmcephnfcciloaaGreatDoor
open E
set_option linter.unusedSimpArgs false
set_option linter.unusedVariables false
set_option maxRecDepth 100000
theorem Zh {α : Type} [BEq α] (l : List α) : decide ((l.length : Int) > 0) = !(l == []) := by
  cases l with
  | nil => rfl
  | cons x r => rw [beq_nil_cons]; simp only [Bool.not_false]; apply decide_eq_true; simp only [List.length_cons]; omega
set_option maxHeartbeats 16000000 in
theorem R0 (s : Str) (v : Ver) (hv : zM s = (v, true)) (hs : s.length ≤ 1048700) (l : List Bd) (hl : l.length ≤ 4194304) (hb : ∀ b ∈ l, b.1.length ≤ 1048700 ∧ b.2.length ≤ 1048700) : ∀ (rest pre : List Bd), l = pre ++ rest → ∃ x,
    EV Tryz.prog pol (.loop 66 122 0 [.t (.str s), .ptr 0 0 0, .t (.list 2 (bdT l)), .t (.int .i64 (l.length : Int)), .t (.int .i64 (pre.length : Int))] [.vs 4 [v.enc.map .t]])
      = some (cond (rest.any (o4 v)) (.loop .ret [.t (.bool true)] []) (.loop (.exit 0) [x] []))
  | [], pre, h => by
    have c : decide ((pre.length : Int) < (l.length : Int)) = false := by simp [h]
    refine ⟨.bad, ?_⟩
    simp only [List.any_nil, cond_false, Ver.enc, List.map_cons, List.map_nil]
    refine zu Tryz.func66 rfl rfl ?_
    simp (disch := ((try simp only [LL]); omega)) only [↓GO, ↓DRW, GA, ren, zA, zd, refs, zb, cst, zl, zG, z7, E.load, E.store, zF, isC, bin, zH, zI, una, z8, za, zh, zJ, blt, fnV, asArg, ze, zn, zo, zj, zi, zg, zk, zr, z6, zD, zE, E.mkS, zc, unN, zK, zm, zz, zB, zf, zL, zq, GS, simprocAttr, GZ, c, zZ]
  | b :: rest, pre, h => by
    have c : decide ((pre.length : Int) < (l.length : Int)) = true := by simp [h]; omega
    have hget : (bdT l)[pre.length]? = some [.str b.1, .str b.2] := by rw [h]; exact wL (fun b : Bd => [T.str b.1, T.str b.2]) pre b rest
    have hlen : pre.length + rest.length + 1 ≤ l.length := by rw [h]; simp; omega
    obtain ⟨hb1, hb2⟩ := hb b (by rw [h]; simp)
    have d1 := Rb s b.1 hs hb1
    have d2 := Rb s b.2 hs hb2
    have d3 := nj b.1 hb1
    rw [hv] at d1 d2
    obtain ⟨x, IH⟩ := R0 s v hv hs l hl hb rest (pre ++ [b]) (by rw [h]; simp)
    rw [show ((pre ++ [b]).length : Int) = (pre.length : Int) + 1 by simp] at IH
    refine ⟨x, ?_⟩
    have e1 := uk v.pre
    have e2 := Zh (zM b.1).1.pre
    rw [List.any_cons]
    generalize hR : rest.any (o4 v) = R at *
    have ht : o4 v b = cond ((!(b.1 == []) && decide (pY v (zM b.1).1 < 0)) || (!(b.2 == []) && decide (pY v (zM b.2).1 ≥ 0))) false
      (v.pre == [] || (!((zM b.1).1.pre == []) && ((zM b.1).1.maj == v.maj && ((zM b.1).1.min == v.min && (zM b.1).1.pat == v.pat)))) := rfl
    rw [ht]
    clear h hb hv ht hR
    obtain ⟨lo, hi⟩ := b
    unfold rvT at d3
    simp only at d1 d2 d3 e2 hget ⊢
    generalize (zM lo).2 = okl at *
    generalize pY v (zM lo).1 = n1 at *
    generalize pY v (zM hi).1 = n2 at *
    generalize (zM lo).1 = vl at *
    obtain ⟨maj, min, pat, pre'⟩ := v
    obtain ⟨maj2, min2, pat2, pre2⟩ := vl
    simp only [Ver.enc, List.map_cons, List.map_nil] at d3 IH e1 e2 ⊢
    have skip : ∀ (q : Bool), q = true → True := fun _ _ => trivial
    cases q1 : (lo == []) <;> cases q2 : decide (n1 < 0) <;> cases q3 : (hi == []) <;> cases q4 : decide (n2 ≥ 0) <;> simp only [Bool.not_true, Bool.not_false, Bool.and_true, Bool.true_and, Bool.false_and, Bool.and_false, Bool.or_false, Bool.or_true, cond_true, cond_false, Bool.false_or]
    all_goals first
      | (refine zu Tryz.func66 rfl rfl ?_
         simp (disch := ((try simp only [LL]); omega)) only [↓GO, ↓DRW, GA, ren, zA, zd, refs, zb, cst, zl, zG, z7, E.load, E.store, zF, isC, bin, zH, zI, una, z8, za, zh, zJ, blt, fnV, asArg, ze, zn, zo, zj, zi, zg, zk, zr, z6, zD, zE, E.mkS, zc, unN, zK, zm, zz, zB, zf, zL, zq, GS, simprocAttr, GZ, c, hget, d1, d2, d3, q1, q2, q3, q4, e1, e2, bne, zO, zx, zZ, IH]
         done)
      | (cases q5 : (pre' == []) <;> rw [q5] at e1
         · cases q6 : (pre2 == []) <;> rw [q6] at e2
           · cases q7 : (maj2 == maj)
             · refine zu Tryz.func66 rfl rfl ?_
               simp (disch := ((try simp only [LL]); omega)) only [↓GO, ↓DRW, GA, ren, zA, zd, refs, zb, cst, zl, zG, z7, E.load, E.store, zF, isC, bin, zH, zI, una, z8, za, zh, zJ, blt, fnV, asArg, ze, zn, zo, zj, zi, zg, zk, zr, z6, zD, zE, E.mkS, zc, unN, zK, zm, zz, zB, zf, zL, zq, GS, simprocAttr, GZ, c, hget, d1, d2, d3, q1, q2, q3, q4, e1, e2, q7, bne, zO, zx, zZ, IH, Bool.not_false, Bool.not_true, Bool.and_false, Bool.false_or]
             · cases q8 : (min2 == min)
               · refine zu Tryz.func66 rfl rfl ?_
                 simp (disch := ((try simp only [LL]); omega)) only [↓GO, ↓DRW, GA, ren, zA, zd, refs, zb, cst, zl, zG, z7, E.load, E.store, zF, isC, bin, zH, zI, una, z8, za, zh, zJ, blt, fnV, asArg, ze, zn, zo, zj, zi, zg, zk, zr, z6, zD, zE, E.mkS, zc, unN, zK, zm, zz, zB, zf, zL, zq, GS, simprocAttr, GZ, c, hget, d1, d2, d3, q1, q2, q3, q4, e1, e2, q7, q8, bne, zO, zx, zZ, IH, Bool.not_false, Bool.not_true, Bool.and_false, Bool.false_or]
               · cases q9 : (pat2 == pat)
                 all_goals
                   refine zu Tryz.func66 rfl rfl ?_
                   simp (disch := ((try simp only [LL]); omega)) only [↓GO, ↓DRW, GA, ren, zA, zd, refs, zb, cst, zl, zG, z7, E.load, E.store, zF, isC, bin, zH, zI, una, z8, za, zh, zJ, blt, fnV, asArg, ze, zn, zo, zj, zi, zg, zk, zr, z6, zD, zE, E.mkS, zc, unN, zK, zm, zz, zB, zf, zL, zq, GS, simprocAttr, GZ, c, hget, d1, d2, d3, q1, q2, q3, q4, e1, e2, q7, q8, q9, bne, zO, zx, zZ, IH, Bool.not_false, Bool.not_true, Bool.and_false, Bool.false_or]
           · refine zu Tryz.func66 rfl rfl ?_
             simp (disch := ((try simp only [LL]); omega)) only [↓GO, ↓DRW, GA, ren, zA, zd, refs, zb, cst, zl, zG, z7, E.load, E.store, zF, isC, bin, zH, zI, una, z8, za, zh, zJ, blt, fnV, asArg, ze, zn, zo, zj, zi, zg, zk, zr, z6, zD, zE, E.mkS, zc, unN, zK, zm, zz, zB, zf, zL, zq, GS, simprocAttr, GZ, c, hget, d1, d2, d3, q1, q2, q3, q4, e1, e2, bne, zO, zx, zZ, IH, Bool.not_false, Bool.not_true, Bool.and_false, Bool.false_or]
         · refine zu Tryz.func66 rfl rfl ?_
           simp (disch := ((try simp only [LL]); omega)) only [↓GO, ↓DRW, GA, ren, zA, zd, refs, zb, cst, zl, zG, z7, E.load, E.store, zF, isC, bin, zH, zI, una, z8, za, zh, zJ, blt, fnV, asArg, ze, zn, zo, zj, zi, zg, zk, zr, z6, zD, zE, E.mkS, zc, unN, zK, zm, zz, zB, zf, zL, zq, GS, simprocAttr, GZ, c, hget, d1, d2, d3, q1, q2, q3, q4, e1, e2, bne, zO, zx, zZ, IH, Bool.true_or])
end Go.Proofs.YtmcephnfcciloaaGreatDoor
/- What is in a range, by both; what a notice tells of. Conditions: those of each lemma. -/
namespace Go.Proofs.YtmcephnfcciloaaGreatDoor
open E
set_option linter.unusedSimpArgs false
set_option linter.unusedVariables false
set_option maxRecDepth 100000
def BdB (l : List Bd) : Prop := l.length ≤ 4194304 ∧ ∀ b ∈ l, b.1.length ≤ 1048600 ∧ b.2.length ≤ 1048600
theorem c_inI (s : Str) (hs : s.length ≤ 1048576) (l : List Bd) (hl : BdB l) : zC (EV Tryz.prog pol) 66 [.t (.str s), .t (.list 2 (bdT l))] = some (.t (.bool (inB s l))) := by
  have hb : ∀ b ∈ l, b.1.length ≤ 1048700 ∧ b.2.length ≤ 1048700 := fun b hb => by have := hl.2 b hb; omega
  have d1 := nj s (by omega)
  have d2 := UU l hl.1 hb
  unfold rvT at d1
  unfold inB
  cases ho : (zM s).2 with
  | false =>
    rw [ho] at d1
    generalize (zM s).1 = v at *
    simp only [Bool.false_and]
    obtain ⟨maj, min, pat, pre⟩ := v
    simp only [Ver.enc, List.map_cons, List.map_nil] at d1
    apply zw
    refine zy rfl Tryz.func66 rfl (by kernel_rfl) ?_
    unfold Tryz.f66
    simp (disch := ((try simp only [LL]); omega)) only [↓GO, ↓DRW, GA, ren, zA, zd, refs, zb, cst, zl, zG, z7, E.load, E.store, zF, isC, bin, zH, zI, una, z8, za, zh, zJ, blt, fnV, asArg, ze, zn, zo, zj, zi, zg, zk, zr, z6, zD, zE, E.mkS, zc, unN, zK, zm, zz, zB, zf, zL, zq, GS, simprocAttr, GZ, d1, zZ]
  | true =>
    have hv : zM s = ((zM s).1, true) := by rw [← ho]
    have hvo := (yv ho).2.2.1
    obtain ⟨x, L⟩ := R0 s _ hv (by omega) l hl.1 hb l [] rfl
    rw [ho] at d1
    simp only [List.length_nil, Int.natCast_zero] at L
    cases hr : xt l with
    | false =>
      rw [hr] at d2
      generalize (zM s).1 = v at *
      simp only [Bool.true_and, Bool.false_and]
      obtain ⟨maj, min, pat, pre⟩ := v
      simp only [Ver.enc, List.map_cons, List.map_nil] at d1
      apply zw
      refine zy rfl Tryz.func66 rfl (by kernel_rfl) ?_
      unfold Tryz.f66
      simp (disch := ((try simp only [LL]); omega)) only [↓GO, ↓DRW, GA, ren, zA, zd, refs, zb, cst, zl, zG, z7, E.load, E.store, zF, isC, bin, zH, zI, una, z8, za, zh, zJ, blt, fnV, asArg, ze, zn, zo, zj, zi, zg, zk, zr, z6, zD, zE, E.mkS, zc, unN, zK, zm, zz, zB, zf, zL, zq, GS, simprocAttr, GZ, d1, d2, zZ]
    | true =>
      rw [hr] at d2
      have hall : (l.all fun b => isE b.1 && isE b.2) = true := by
        unfold xt at hr
        rw [Bool.and_eq_true] at hr
        exact hr.1
      rw [dK hvo l hall] at L
      generalize l.any (vY (zM s).1) = R at *
      generalize (zM s).1 = v at *
      simp only [Bool.true_and]
      obtain ⟨maj, min, pat, pre⟩ := v
      simp only [Ver.enc, List.map_cons, List.map_nil] at d1 L
      have hbl : (bdT l).length = l.length := xY l
      cases R <;> simp only [cond_true, cond_false] at L
      all_goals
        apply zw
        refine zy rfl Tryz.func66 rfl (by kernel_rfl) ?_
        unfold Tryz.f66
        simp (disch := ((try simp only [LL]); omega)) only [↓GO, ↓DRW, GA, ren, zA, zd, refs, zb, cst, zl, zG, z7, E.load, E.store, zF, isC, bin, zH, zI, una, z8, za, zh, zJ, blt, fnV, asArg, ze, zn, zo, zj, zi, zg, zk, zr, z6, zD, zE, E.mkS, zc, unN, zK, zm, zz, zB, zf, zL, zq, GS, simprocAttr, GZ, d1, d2, L, hbl, zZ]
set_option maxHeartbeats 16000000 in
theorem c_tkR (v : Ver) (hv : v.sm) (b : Bd) (hb : b.1.length ≤ 1048600 ∧ b.2.length ≤ 1048600) : zC (EV Tryz.prog pol) 89 [.agg [.t (.str b.1), .t (.str b.2)], .agg (v.enc.map .t)] = some (.t (.bool (vY v b))) := by
  obtain ⟨lo, hi⟩ := b
  simp only at hb ⊢
  have d1 := ni lo (by omega)
  have d2 := ni hi (by omega)
  have d3 := ab v (zM lo).1 hv (x7 lo (by omega)).1
  have d4 := ab v (zM hi).1 hv (x7 hi (by omega)).1
  have e1 := uk v.pre
  have e2 := Zh (zM lo).1.pre
  have ht : vY v (lo, hi) = cond (((zM lo).2 && decide (qj v (zM lo).1 < 0)) || ((zM hi).2 && decide (qj v (zM hi).1 ≥ 0))) false
      (v.pre == [] || ((zM lo).2 && (!((zM lo).1.pre == []) && ((zM lo).1.maj == v.maj && ((zM lo).1.min == v.min && (zM lo).1.pat == v.pat))))) := rfl
  rw [ht]
  clear ht
  unfold rvT at d1 d2
  generalize (zM lo).2 = okl at *
  generalize (zM hi).2 = okh at *
  generalize qj v (zM lo).1 = n1 at *
  generalize qj v (zM hi).1 = n2 at *
  generalize (zM lo).1 = vl at *
  generalize (zM hi).1 = vh at *
  obtain ⟨maj, min, pat, pre'⟩ := v
  obtain ⟨maj2, min2, pat2, pre2⟩ := vl
  obtain ⟨maj3, min3, pat3, pre3⟩ := vh
  simp only [Ver.enc, List.map_cons, List.map_nil] at d1 d2 d3 d4 e1 e2 ⊢
  cases okl <;> cases q2 : decide (n1 < 0) <;> cases okh <;> cases q4 : decide (n2 ≥ 0) <;> simp only [Bool.and_true, Bool.true_and, Bool.false_and, Bool.and_false, Bool.or_false, Bool.or_true, cond_true, cond_false, Bool.false_or]
  all_goals first
    | (skip
       apply zw
       refine zy rfl Tryz.func89 rfl (by kernel_rfl) ?_
       unfold Tryz.f89
       simp (disch := ((try simp only [LL]); omega)) only [↓GO, ↓DRW, GA, ren, zA, zd, refs, zb, cst, zl, zG, z7, E.load, E.store, zF, isC, bin, zH, zI, una, z8, za, zh, zJ, blt, fnV, asArg, ze, zn, zo, zj, zi, zg, zk, zr, z6, zD, zE, E.mkS, zc, unN, zK, zm, zz, zB, zf, zL, zq, GS, simprocAttr, GZ, d1, d2, d3, d4, q2, q4, e1, e2, bne, zO, zZ]
       done)
    | (cases q5 : (pre' == []) <;> rw [q5] at e1
       · cases q6 : (pre2 == []) <;> rw [q6] at e2
         · cases q7 : (maj2 == maj)
           · apply zw
             refine zy rfl Tryz.func89 rfl (by kernel_rfl) ?_
             unfold Tryz.f89
             simp (disch := ((try simp only [LL]); omega)) only [↓GO, ↓DRW, GA, ren, zA, zd, refs, zb, cst, zl, zG, z7, E.load, E.store, zF, isC, bin, zH, zI, una, z8, za, zh, zJ, blt, fnV, asArg, ze, zn, zo, zj, zi, zg, zk, zr, z6, zD, zE, E.mkS, zc, unN, zK, zm, zz, zB, zf, zL, zq, GS, simprocAttr, GZ, d1, d2, d3, d4, q2, q4, e1, e2, q7, bne, zO, zZ, Bool.not_false, Bool.not_true, Bool.and_false, Bool.false_or]
           · cases q8 : (min2 == min)
             · apply zw
               refine zy rfl Tryz.func89 rfl (by kernel_rfl) ?_
               unfold Tryz.f89
               simp (disch := ((try simp only [LL]); omega)) only [↓GO, ↓DRW, GA, ren, zA, zd, refs, zb, cst, zl, zG, z7, E.load, E.store, zF, isC, bin, zH, zI, una, z8, za, zh, zJ, blt, fnV, asArg, ze, zn, zo, zj, zi, zg, zk, zr, z6, zD, zE, E.mkS, zc, unN, zK, zm, zz, zB, zf, zL, zq, GS, simprocAttr, GZ, d1, d2, d3, d4, q2, q4, e1, e2, q7, q8, bne, zO, zZ, Bool.not_false, Bool.not_true, Bool.and_false, Bool.false_or]
             · cases q9 : (pat2 == pat)
               all_goals
                 apply zw
                 refine zy rfl Tryz.func89 rfl (by kernel_rfl) ?_
                 unfold Tryz.f89
                 simp (disch := ((try simp only [LL]); omega)) only [↓GO, ↓DRW, GA, ren, zA, zd, refs, zb, cst, zl, zG, z7, E.load, E.store, zF, isC, bin, zH, zI, una, z8, za, zh, zJ, blt, fnV, asArg, ze, zn, zo, zj, zi, zg, zk, zr, z6, zD, zE, E.mkS, zc, unN, zK, zm, zz, zB, zf, zL, zq, GS, simprocAttr, GZ, d1, d2, d3, d4, q2, q4, e1, e2, q7, q8, q9, bne, zO, zZ, Bool.not_false, Bool.not_true, Bool.and_false, Bool.false_or]
         · apply zw
           refine zy rfl Tryz.func89 rfl (by kernel_rfl) ?_
           unfold Tryz.f89
           simp (disch := ((try simp only [LL]); omega)) only [↓GO, ↓DRW, GA, ren, zA, zd, refs, zb, cst, zl, zG, z7, E.load, E.store, zF, isC, bin, zH, zI, una, z8, za, zh, zJ, blt, fnV, asArg, ze, zn, zo, zj, zi, zg, zk, zr, z6, zD, zE, E.mkS, zc, unN, zK, zm, zz, zB, zf, zL, zq, GS, simprocAttr, GZ, d1, d2, d3, d4, q2, q4, e1, e2, bne, zO, zZ, Bool.not_false, Bool.not_true, Bool.and_false, Bool.false_or]
       · apply zw
         refine zy rfl Tryz.func89 rfl (by kernel_rfl) ?_
         unfold Tryz.f89
         simp (disch := ((try simp only [LL]); omega)) only [↓GO, ↓DRW, GA, ren, zA, zd, refs, zb, cst, zl, zG, z7, E.load, E.store, zF, isC, bin, zH, zI, una, z8, za, zh, zJ, blt, fnV, asArg, ze, zn, zo, zj, zi, zg, zk, zr, z6, zD, zE, E.mkS, zc, unN, zK, zm, zz, zB, zf, zL, zq, GS, simprocAttr, GZ, d1, d2, d3, d4, q2, q4, e1, e2, bne, zO, zZ, Bool.true_or])
theorem SZ (v : Ver) (hv : v.sm) (ok : Bool) (l : List Bd) (hl : BdB l) : ∀ (rest pre : List Bd), l = pre ++ rest → ∃ x,
    EV Tryz.prog pol (.loop 60 58 0 [.t (.list 2 (bdT l)), .ptr 0 0 0, .t (.bool ok), .t (.int .i64 (pre.length : Int))] [.vs 4 [v.enc.map .t]])
      = some (cond (ok && (xt l && rest.any (vY v))) (.loop .ret [.t (.bool true)] []) (.loop (.exit 0) [x] []))
  | [], pre, h => by
    have c : decide ((pre.length : Int) < (l.length : Int)) = false := by simp [h]
    refine ⟨.bad, ?_⟩
    simp only [List.any_nil, Bool.and_false, cond_false, Ver.enc, List.map_cons, List.map_nil]
    refine zu Tryz.func60 rfl rfl ?_
    simp (disch := ((try simp only [LL]); omega)) only [↓GO, ↓DRW, GA, ren, zA, zd, refs, zb, cst, zl, zG, z7, E.load, E.store, zF, isC, bin, zH, zI, una, z8, za, zh, zJ, blt, fnV, asArg, ze, zn, zo, zj, zi, zg, zk, zr, z6, zD, zE, E.mkS, zc, unN, zK, zm, zz, zB, zf, zL, zq, GS, simprocAttr, GZ, c, xY, zZ]
  | b :: rest, pre, h => by
    have c : decide ((pre.length : Int) < (l.length : Int)) = true := by simp [h]; omega
    have hget : (bdT l)[pre.length]? = some [.str b.1, .str b.2] := by rw [h]; exact wL (fun b : Bd => [T.str b.1, T.str b.2]) pre b rest
    have hlen : pre.length + rest.length + 1 ≤ l.length := by rw [h]; simp; omega
    have hll := hl.1
    have d1 := c_tkR v hv b (hl.2 b (by rw [h]; simp))
    have d2 := iY l hl.1 (fun b hb => by have := hl.2 b hb; omega)
    obtain ⟨x, IH⟩ := SZ v hv ok l hl rest (pre ++ [b]) (by rw [h]; simp)
    rw [show ((pre ++ [b]).length : Int) = (pre.length : Int) + 1 by simp] at IH
    refine ⟨x, ?_⟩
    rw [List.any_cons]
    generalize rest.any (vY v) = R at *
    generalize vY v b = t at *
    generalize xt l = rk at *
    clear h hl
    obtain ⟨lo, hi⟩ := b
    simp only at d1 hget
    obtain ⟨maj, min, pat, pre'⟩ := v
    simp only [Ver.enc, List.map_cons, List.map_nil] at d1 IH ⊢
    cases ok <;> cases rk <;> cases t <;> simp only [Bool.true_and, Bool.false_and, Bool.true_or, Bool.false_or, cond_true, cond_false] at IH ⊢
    all_goals
      refine zu Tryz.func60 rfl rfl ?_
      simp (disch := ((try simp only [LL]); omega)) only [↓GO, ↓DRW, GA, ren, zA, zd, refs, zb, cst, zl, zG, z7, E.load, E.store, zF, isC, bin, zH, zI, una, z8, za, zh, zJ, blt, fnV, asArg, ze, zn, zo, zj, zi, zg, zk, zr, z6, zD, zE, E.mkS, zc, unN, zK, zm, zz, zB, zf, zL, zq, GS, simprocAttr, GZ, c, hget, d1, d2, xY, zx, zZ, IH]
theorem c_inR (s : Str) (hs : s.length ≤ 1048576) (l : List Bd) (hl : BdB l) : zC (EV Tryz.prog pol) 60 [.t (.str s), .t (.list 2 (bdT l))] = some (.t (.bool (inB s l))) := by
  have d1 := ni s (by omega)
  obtain ⟨x, L⟩ := SZ (zM s).1 (x7 s (by omega)).1 (zM s).2 l hl l [] rfl
  unfold rvT at d1
  unfold inB
  simp only [List.length_nil, Int.natCast_zero] at L
  generalize ((zM s).2 && (xt l && l.any (vY (zM s).1))) = R at *
  generalize (zM s).2 = ok at *
  generalize (zM s).1 = v at *
  obtain ⟨maj, min, pat, pre⟩ := v
  simp only [Ver.enc, List.map_cons, List.map_nil] at d1 L
  cases R <;> simp only [cond_true, cond_false] at L
  all_goals
    apply zw
    refine zy rfl Tryz.func60 rfl (by kernel_rfl) ?_
    unfold Tryz.f60
    simp (disch := ((try simp only [LL]); omega)) only [↓GO, ↓DRW, GA, ren, zA, zd, refs, zb, cst, zl, zG, z7, E.load, E.store, zF, isC, bin, zH, zI, una, z8, za, zh, zJ, blt, fnV, asArg, ze, zn, zo, zj, zi, zg, zk, zr, z6, zD, zE, E.mkS, zc, unN, zK, zm, zz, zB, zf, zL, zq, GS, simprocAttr, GZ, d1, L, zZ]
end Go.Proofs.YtmcephnfcciloaaGreatDoor
/- What notices tell of a graph, by both. Conditions: those of each lemma. -/
namespace Go.Proofs.YtmcephnfcciloaaGreatDoor
open E
set_option linter.unusedSimpArgs false
set_option linter.unusedVariables false
set_option maxRecDepth 100000
theorem kz {s : Str} {l : List Bd} (h : wD s = some l) : BdB l := by
  unfold wD at h
  cases hc : (decide ((s.length : Int) > 200) || decide (((yY 0 s).length : Int) > 8)) with
  | true => rw [hc] at h; cases h
  | false =>
    rw [hc, cond_false] at h
    have h1 := mN h
    have h2 := (r7 _ _ h).2
    simp only [Bool.or_eq_false_iff, decide_eq_false_iff_not] at hc
    exact ⟨by omega, fun b hb => by have := h1 b hb; omega⟩
theorem c_afI (n : zt) (hb : n.yg ≤ 1048576) (name ver : Str) (hn : name.length ≤ 1048576) (hv : ver.length ≤ 1048576) : zC (EV Tryz.prog pol) 34 [.agg (n.enc.map .t), .t (.str name), .t (.str ver)] = some (.t (.bool (afT n name ver))) := by
  have d1 := c_noI n hb
  have d2 := R8 n.range (by simp only [zt.yg] at hb; omega)
  rw [me] at d2
  unfold afT
  have e : pF n = xO n := rfl
  rw [e]
  cases hr : wD n.range with
  | none =>
    have hno : xO n = false := by unfold xO; rw [hr]; rfl
    rw [hno] at d1 ⊢
    rw [hr] at d2
    simp only [Bool.false_and, rrT] at d2 ⊢
    obtain ⟨nm, rg, tx⟩ := n
    simp only [zt.enc, List.map_cons, List.map_nil] at d1 d2 ⊢
    apply zw
    refine zy rfl Tryz.func34 rfl (by kernel_rfl) ?_
    unfold Tryz.f34
    simp (disch := ((try simp only [LL]); omega)) only [↓GO, ↓DRW, GA, ren, zA, zd, refs, zb, cst, zl, zG, z7, E.load, E.store, zF, isC, bin, zH, zI, una, z8, za, zh, zJ, blt, fnV, asArg, ze, zn, zo, zj, zi, zg, zk, zr, z6, zD, zE, E.mkS, zc, unN, zK, zm, zz, zB, zf, zL, zq, GS, simprocAttr, GZ, d1, d2, zZ]
  | some l =>
    have d3 := c_inI ver hv l (kz hr)
    rw [hr] at d2
    simp only [rrT, Option.getD_some] at d2 ⊢
    generalize xO n = ok at *
    generalize inB ver l = t at *
    obtain ⟨nm, rg, tx⟩ := n
    simp only [zt.enc, List.map_cons, List.map_nil] at d1 d2 ⊢
    cases ok <;> cases q : (nm == name) <;> simp only [Bool.true_and, Bool.false_and]
    all_goals
      apply zw
      refine zy rfl Tryz.func34 rfl (by kernel_rfl) ?_
      unfold Tryz.f34
      simp (disch := ((try simp only [LL]); omega)) only [↓GO, ↓DRW, GA, ren, zA, zd, refs, zb, cst, zl, zG, z7, E.load, E.store, zF, isC, bin, zH, zI, una, z8, za, zh, zJ, blt, fnV, asArg, ze, zn, zo, zj, zi, zg, zk, zr, z6, zD, zE, E.mkS, zc, unN, zK, zm, zz, zB, zf, zL, zq, GS, simprocAttr, GZ, d1, d2, d3, q, zZ]
theorem c_afR (n : zt) (hb : n.yg ≤ 1048576) (name ver : Str) (hn : name.length ≤ 1048576) (hv : ver.length ≤ 1048576) : zC (EV Tryz.prog pol) 28 [.agg (n.enc.map .t), .t (.str name), .t (.str ver)] = some (.t (.bool (afT n name ver))) := by
  have d1 := c_noR n hb
  have d2 := R7 n.range (by simp only [zt.yg] at hb; omega)
  unfold afT
  have e : pF n = xO n := rfl
  rw [e]
  cases hr : wD n.range with
  | none =>
    have hno : xO n = false := by unfold xO; rw [hr]; rfl
    rw [hno] at d1 ⊢
    rw [hr] at d2
    simp only [Bool.false_and, rrT] at d2 ⊢
    obtain ⟨nm, rg, tx⟩ := n
    simp only [zt.enc, List.map_cons, List.map_nil] at d1 d2 ⊢
    apply zw
    refine zy rfl Tryz.func28 rfl (by kernel_rfl) ?_
    unfold Tryz.f28
    simp (disch := ((try simp only [LL]); omega)) only [↓GO, ↓DRW, GA, ren, zA, zd, refs, zb, cst, zl, zG, z7, E.load, E.store, zF, isC, bin, zH, zI, una, z8, za, zh, zJ, blt, fnV, asArg, ze, zn, zo, zj, zi, zg, zk, zr, z6, zD, zE, E.mkS, zc, unN, zK, zm, zz, zB, zf, zL, zq, GS, simprocAttr, GZ, d1, d2, zZ]
  | some l =>
    have d3 := c_inR ver hv l (kz hr)
    rw [hr] at d2
    simp only [rrT, Option.getD_some] at d2 ⊢
    generalize xO n = ok at *
    generalize inB ver l = t at *
    obtain ⟨nm, rg, tx⟩ := n
    simp only [zt.enc, List.map_cons, List.map_nil] at d1 d2 ⊢
    cases ok <;> cases q : (nm == name) <;> simp only [Bool.true_and, Bool.false_and]
    all_goals
      apply zw
      refine zy rfl Tryz.func28 rfl (by kernel_rfl) ?_
      unfold Tryz.f28
      simp (disch := ((try simp only [LL]); omega)) only [↓GO, ↓DRW, GA, ren, zA, zd, refs, zb, cst, zl, zG, z7, E.load, E.store, zF, isC, bin, zH, zI, una, z8, za, zh, zJ, blt, fnV, asArg, ze, zn, zo, zj, zi, zg, zk, zr, z6, zD, zE, E.mkS, zc, unN, zK, zm, zz, zB, zf, zL, zq, GS, simprocAttr, GZ, d1, d2, d3, q, zZ]
end Go.Proofs.YtmcephnfcciloaaGreatDoor
/- slices.IndexFunc, ContainsFunc at Notice. Conditions: those of each lemma. -/
namespace Go.Proofs.YtmcephnfcciloaaGreatDoor
open E
set_option linter.unusedSimpArgs false
set_option linter.unusedVariables false
set_option maxRecDepth 100000
theorem rE (g : Nat) (caps : List T) (p : zt → Bool) (es : List zt) (hl : es.length ≤ 4611686018427387904) (hp : ∀ x ∈ es, zC (EV Tryz.prog pol) g (.agg (x.enc.map .t) :: caps.map .t) = some (.t (.bool (p x)))) : ∀ (rest pre : List zt), es = pre ++ rest →
    EV Tryz.prog pol (.loop 79 26 0 [.t (.list 3 (zt.zW es)), .t (.fn g caps), .t (.int .i64 (es.length : Int)), .t (.int .i64 (pre.length : Int))] []) = some (match vv p rest pre.length with | some i => .loop .ret [.t (.int .i64 (i : Int))] [] | none => .loop (.exit 0) [.bad] [])
  | [], pre, hs => by
    have c : decide ((pre.length : Int) < (es.length : Int)) = false := by simp [hs]
    refine zu Tryz.func79 rfl rfl ?_
    simp only [↓GO, ↓DRW, GA, ren, zA, zd, refs, zb, cst, zl, zG, z7, E.load, E.store, zF, isC, bin, zH, zI, una, z8, za, zh, zJ, blt, fnV, asArg, ze, zn, zo, zj, zi, zg, zk, zr, z6, zD, zE, E.mkS, zc, unN, zK, zm, zz, zB, zf, zL, zq, GS, simprocAttr, c, vv]
  | b :: rest, pre, hs => by
    have c : decide ((pre.length : Int) < (es.length : Int)) = true := by simp [hs]; omega
    have hi : pre.length < es.length := by rw [hs]; simp
    have hget := zt.yT es pre.length hi
    have hgb : es[pre.length] = b := by simp [hs]
    rw [hgb] at hget
    have hb := hp b (by rw [hs]; simp)
    have e1 : (pre.length : Int) + 1 = ((pre ++ [b]).length : Int) := by simp
    have IH := rE g caps p es hl hp rest (pre ++ [b]) (by rw [hs]; simp)
    refine zu Tryz.func79 rfl rfl ?_
    simp only [vv]
    cases hpb : p b with
    | true =>
      rw [hpb] at hb
      simp (disch := omega) only [↓GO, ↓DRW, GA, ren, zA, zd, refs, zb, cst, zl, zG, z7, E.load, E.store, zF, isC, bin, zH, zI, una, z8, za, zh, zJ, blt, fnV, asArg, ze, zn, zo, zj, zi, zg, zk, zr, z6, zD, zE, E.mkS, zc, unN, zK, zm, zz, zB, zf, zL, zq, GS, simprocAttr, zt.zT, c, hget, zt.vg, zt.wo, zx, hb]
    | false =>
      rw [hpb] at hb
      simp (disch := omega) only [↓GO, ↓DRW, GA, ren, zA, zd, refs, zb, cst, zl, zG, z7, E.load, E.store, zF, isC, bin, zH, zI, una, z8, za, zh, zJ, blt, fnV, asArg, ze, zn, zo, zj, zi, zg, zk, zr, z6, zD, zE, E.mkS, zc, unN, zK, zm, zz, zB, zf, zL, zq, GS, simprocAttr, zt.zT, c, hget, zt.vg, zt.wo, zx, hb]
      rw [e1, IH]
      simp
theorem lX (g : Nat) (caps : List T) (p : zt → Bool) (es : List zt) (hl : es.length ≤ 4611686018427387904) (hp : ∀ x ∈ es, zC (EV Tryz.prog pol) g (.agg (x.enc.map .t) :: caps.map .t) = some (.t (.bool (p x)))) :
    zC (EV Tryz.prog pol) 79 [.t (.list 3 (zt.zW es)), .t (.fn g caps)] = some (.t (.int .i64 (ixI (vv p es 0)))) := by
  have IH := rE g caps p es hl hp es [] rfl
  simp only [List.length_nil, Int.natCast_zero] at IH
  apply zw
  refine zy rfl Tryz.func79 rfl (by kernel_rfl) ?_
  unfold Tryz.f79
  cases hf : vv p es 0 with
  | none => rw [hf] at IH; simp only [↓GO, ↓DRW, GA, ren, zA, zd, refs, zb, cst, zl, zG, z7, E.load, E.store, zF, isC, bin, zH, zI, una, z8, za, zh, zJ, blt, fnV, asArg, ze, zn, zo, zj, zi, zg, zk, zr, z6, zD, zE, E.mkS, zc, unN, zK, zm, zz, zB, zf, zL, zq, GS, simprocAttr, zt.zT, IH, ixI]
  | some i => rw [hf] at IH; simp only [↓GO, ↓DRW, GA, ren, zA, zd, refs, zb, cst, zl, zG, z7, E.load, E.store, zF, isC, bin, zH, zI, una, z8, za, zh, zJ, blt, fnV, asArg, ze, zn, zo, zj, zi, zg, zk, zr, z6, zD, zE, E.mkS, zc, unN, zK, zm, zz, zB, zf, zL, zq, GS, simprocAttr, zt.zT, IH, ixI]
theorem lY (g : Nat) (caps : List T) (p : zt → Bool) (es : List zt) (hl : es.length ≤ 4611686018427387904) (hp : ∀ x ∈ es, zC (EV Tryz.prog pol) g (.agg (x.enc.map .t) :: caps.map .t) = some (.t (.bool (p x)))) :
    zC (EV Tryz.prog pol) 53 [.t (.list 3 (zt.zW es)), .t (.fn g caps)] = some (.t (.bool (es.any p))) := by
  have h1 := lX g caps p es hl hp
  apply zw
  refine zy rfl Tryz.func53 rfl (by kernel_rfl) ?_
  unfold Tryz.f53
  have h2 := TX p es
  simp only [↓GO, ↓DRW, GA, ren, zA, zd, refs, zb, cst, zl, zG, z7, E.load, E.store, zF, isC, bin, zH, zI, una, z8, za, zh, zJ, blt, fnV, asArg, ze, zn, zo, zj, zi, zg, zk, zr, z6, zD, zE, E.mkS, zc, unN, zK, zm, zz, zB, zf, zL, zq, GS, simprocAttr, h1, h2]
end Go.Proofs.YtmcephnfcciloaaGreatDoor
/- Who is to blame, by both: the functions. Conditions: those of each lemma. -/
namespace Go.Proofs.YtmcephnfcciloaaGreatDoor
open E
set_option linter.unusedSimpArgs false
set_option linter.unusedVariables false
set_option maxRecDepth 100000
def v7 (g : zU) (k : Str) : List Str := cond (yH g) (yN g.packs [k]) []
def qW (g : zU) (ns : List zt) (k : Str) : Bool := (v7 g k).any (rI ns)
/-- who is to blame; nobody where the graph is not one -/
def xV (g : zU) (ns : List zt) : List Str := g.top.filter (qW g ns)
theorem cN {g : zU} (ns : List zt) (hg : yH g = true) : blR g.packs ns g.top [] = xV g ns := by
  rw [YP ns hg]
  unfold UZ xV
  congr 1
  funext k
  unfold Tf qW v7
  rw [hg, cond_true]
theorem YO {g : zU} (ns : List zt) (hg : yH g = false) : xV g ns = [] := by
  unfold xV
  rw [List.filter_eq_nil_iff]
  intro k _
  unfold qW v7
  rw [hg, cond_false]
  simp
theorem mb (ps : List zN) (w : List Str) : (yN ps w).length ≤ ps.length := by
  have e : wz (yx snS ps (w.length + muS ps []) [] w) = yN ps w := nZ ps _ w
  have h1 := uC ps (w.length + muS ps []) [] w
  have h3 : uo ps [] ≤ ps.length := List.countP_le_length
  rw [← e, pB]
  simp only [List.length_nil] at h1
  omega
theorem ZM {g : zU} (hg : yH g = true) {r : Str} {p : zN} (hp : p ∈ g.packs) (hk : keyOf p = r) (ns : List zt) : rI ns r = ns.any fun n => afT n p.name p.version := by
  have h := oq (rF hg p hp).1
  unfold rI
  rw [← hk, h]
theorem UK (ns : List zt) (hl : ns.length ≤ 1048576) (hb : ∀ n ∈ ns, n.yg ≤ 1048576) (a b : Str) (ha : a.length ≤ 1048576) (hv : b.length ≤ 1048576) : ∀ (rest pre : List zt), ns = pre ++ rest →
    EV Tryz.prog pol (.loop 50 26 0 [.t (.list 3 (zt.zW ns)), .t (.str a), .t (.str b), .t (.int .i64 (pre.length : Int))] []) = some (cond (rest.any fun n => afT n a b) (.loop .ret [.t (.bool true)] []) (.loop (.exit 0) [.bad] []))
  | [], pre, h => by
    have c : decide ((pre.length : Int) < (ns.length : Int)) = false := by simp [h]
    rw [List.any_nil, cond_false]
    refine zu Tryz.func50 rfl rfl ?_
    simp (disch := ((try simp only [LL]); omega)) only [↓GO, ↓DRW, GA, ren, zA, zd, refs, zb, cst, zl, zG, z7, E.load, E.store, zF, isC, bin, zH, zI, una, z8, za, zh, zJ, blt, fnV, asArg, ze, zn, zo, zj, zi, zg, zk, zr, z6, zD, zE, E.mkS, zc, unN, zK, zm, zz, zB, zf, zL, zq, GS, simprocAttr, GZ, c, zt.zT, zZ]
  | x :: rest, pre, h => by
    have c : decide ((pre.length : Int) < (ns.length : Int)) = true := by simp [h]; omega
    have hget : (zt.zW ns)[pre.length]? = some x.enc := by rw [h]; simp [zt.zW]
    have hlen : pre.length + rest.length + 1 ≤ ns.length := by rw [h]; simp; omega
    have IH := UK ns hl hb a b ha hv rest (pre ++ [x]) (by rw [h]; simp)
    rw [show ((pre ++ [x]).length : Int) = (pre.length : Int) + 1 by simp] at IH
    have d1 := c_afR x (hb x (by rw [h]; simp)) a b ha hv
    rw [List.any_cons]
    clear h hb
    obtain ⟨nm, rg, tx⟩ := x
    simp only [zt.enc, List.map_cons, List.map_nil] at hget d1
    cases q : afT ⟨nm, rg, tx⟩ a b with
    | true =>
      rw [q] at d1
      simp only [Bool.true_or, cond_true]
      refine zu Tryz.func50 rfl rfl ?_
      simp (disch := ((try simp only [LL]); omega)) only [↓GO, ↓DRW, GA, ren, zA, zd, refs, zb, cst, zl, zG, z7, E.load, E.store, zF, isC, bin, zH, zI, una, z8, za, zh, zJ, blt, fnV, asArg, ze, zn, zo, zj, zi, zg, zk, zr, z6, zD, zE, E.mkS, zc, unN, zK, zm, zz, zB, zf, zL, zq, GS, simprocAttr, GZ, c, hget, zt.zT, d1, zx, zZ]
    | false =>
      rw [q] at d1
      simp only [Bool.false_or]
      refine zu Tryz.func50 rfl rfl ?_
      simp (disch := ((try simp only [LL]); omega)) only [↓GO, ↓DRW, GA, ren, zA, zd, refs, zb, cst, zl, zG, z7, E.load, E.store, zF, isC, bin, zH, zI, una, z8, za, zh, zJ, blt, fnV, asArg, ze, zn, zo, zj, zi, zg, zk, zr, z6, zD, zE, E.mkS, zc, unN, zK, zm, zz, zB, zf, zL, zq, GS, simprocAttr, GZ, c, hget, zt.zT, d1, zx, zZ, IH]
theorem RU (ns : List zt) (hl : ns.length ≤ 1048576) (hb : ∀ n ∈ ns, n.yg ≤ 1048576) (a b : Str) (ha : a.length ≤ 1048576) (hv : b.length ≤ 1048576) : zC (EV Tryz.prog pol) 50 [.t (.list 3 (zt.zW ns)), .t (.str a), .t (.str b)] = some (.t (.bool (ns.any fun n => afT n a b))) := by
  have L := UK ns hl hb a b ha hv ns [] rfl
  simp only [List.length_nil, Int.natCast_zero] at L
  cases q : (ns.any fun n => afT n a b) <;> rw [q] at L <;> simp only [cond_true, cond_false] at L
  all_goals
    apply zw
    refine zy rfl Tryz.func50 rfl (by kernel_rfl) ?_
    unfold Tryz.f50
    simp (disch := ((try simp only [LL]); omega)) only [↓GO, ↓DRW, GA, ren, zA, zd, refs, zb, cst, zl, zG, z7, E.load, E.store, zF, isC, bin, zH, zI, una, z8, za, zh, zJ, blt, fnV, asArg, ze, zn, zo, zj, zi, zg, zk, zr, z6, zD, zE, E.mkS, zc, unN, zK, zm, zz, zB, zf, zL, zq, GS, simprocAttr, GZ, L, zt.zT, zZ]
theorem c_bl1 (n : zt) (hb : n.yg ≤ 1048576) (p : zN) (hp : p.yg ≤ 1048576) : zC (EV Tryz.prog pol) 54 [.agg (n.enc.map .t), .t (.fp p.enc)] = some (.t (.bool (afT n p.name p.version))) := by
  have hpb := hp
  simp only [zN.yg] at hpb
  have d1 := c_afI n hb p.name p.version (by omega) (by omega)
  obtain ⟨nm, rg, tx⟩ := n
  obtain ⟨name, version, source, sums, dev, ym⟩ := p
  simp only [zt.enc, zN.enc, List.map_cons, List.map_nil] at d1 ⊢
  apply zw
  refine zy rfl Tryz.func54 rfl (by kernel_rfl) ?_
  unfold Tryz.f54
  simp (disch := ((try simp only [LL]); omega)) only [↓GO, ↓DRW, GA, ren, zA, zd, refs, zb, cst, zl, zG, z7, E.load, E.store, zF, isC, bin, zH, zI, una, z8, za, zh, zJ, blt, fnV, asArg, ze, zn, zo, zj, zi, zg, zk, zr, z6, zD, zE, E.mkS, zc, unN, zK, zm, zz, zB, zf, zL, zq, GS, simprocAttr, GZ, d1, zZ]
/-- the packs reached, one by one, up to the first that is told of -/
theorem UJ (g : zU) (hB : GB g) (ns : List zt) (hl : ns.length ≤ 1048576) (hb : ∀ n ∈ ns, n.yg ≤ 1048576) (k : Str) (ta tb tc : T) (rs : List Str) (hrl : rs.length ≤ 1048576) (hrs : ∀ r ∈ rs, yH g = true ∧ ∃ p, vM g.packs r = some p) (acc : List Str) (m : Nat) (cap : Option Nat) (hm : m = acc.length) (hmM : m ≤ 1048576) : ∀ (rest pre : List Str), rs = pre ++ rest → ∃ cap',
    EV Tryz.prog pol (.loop 23 14950 0 [.t (.list 3 (zt.zW ns)), .ptr 0 0 0, .sl 1 0 m cap, .t (.str k), .t ta, .t tb, .t tc, .t (.list 1 (zV rs)), .t (.int .i64 (rs.length : Int)), .t (.int .i64 (pre.length : Int))] [.vs 2 [g.enc.map .t], .ts 1 (zV acc)])
      = some (.loop (.exit 2) [.t (.list 3 (zt.zW ns)), .ptr 0 0 0, .sl 1 0 (m + cond (rest.any (rI ns)) 1 0) cap', .t ta, .t tb, .t tc] [.vs 2 [g.enc.map .t], .ts 1 (zV (acc ++ cond (rest.any (rI ns)) [k] []))])
  | [], pre, h => by
    have c : decide ((pre.length : Int) < (rs.length : Int)) = false := by simp [h]
    refine ⟨cap, ?_⟩
    clear hB hrs
    obtain ⟨top, packs⟩ := g
    simp only [List.any_nil, cond_false, List.append_nil, Nat.add_zero, zU.enc, List.map_cons, List.map_nil]
    refine zu Tryz.func23 rfl rfl ?_
    simp (disch := ((try simp only [LL]); omega)) only [↓GO, ↓DRW, GA, ren, zA, zd, refs, zb, cst, zl, zG, z7, E.load, E.store, zF, isC, bin, zH, zI, una, z8, za, zh, zJ, blt, fnV, asArg, ze, zn, zo, zj, zi, zg, zk, zr, z6, zD, zE, E.mkS, zc, unN, zK, zm, zz, zB, zf, zL, zq, GS, simprocAttr, GZ, c, zZ]
  | r :: rest, pre, h => by
    have c : decide ((pre.length : Int) < (rs.length : Int)) = true := by simp [h]; omega
    have hget : (zV rs)[pre.length]? = some [.str r] := uf (by rw [h]; simp)
    have hlen : pre.length + rest.length + 1 ≤ rs.length := by rw [h]; simp; omega
    obtain ⟨hg, p, hf⟩ := hrs r (by rw [h]; simp)
    obtain ⟨hp, hkp, i, hi, hpi⟩ := sw hf
    have hpb := hB.len.2.2 p hp
    have hgp : (zN.zW g.packs)[i]? = some p.enc := by unfold zN.zW; rw [List.getElem?_map, hpi]; rfl
    have d1 := iJ g r hB
    rw [hi] at d1
    have d2 := lY 54 [.fp p.enc] (fun n => afT n p.name p.version) ns (by omega) (fun n hn => c_bl1 n (hb n hn) p hpb)
    rw [← ZM hg hp hkp ns] at d2
    have hsl : (zV acc).length = m := by rw [zO, hm]
    obtain ⟨cap', IH⟩ := UJ g hB ns hl hb k ta tb tc rs hrl hrs acc m cap hm hmM rest (pre ++ [r]) (by rw [h]; simp)
    rw [show ((pre ++ [r]).length : Int) = (pre.length : Int) + 1 by simp] at IH
    rw [List.any_cons]
    clear h hb hB hrs hi hpi hf hp hg
    obtain ⟨top, packs⟩ := g
    simp only at hgp
    obtain ⟨name, version, source, sums, dev, ym⟩ := p
    simp only [zU.enc, zN.enc, List.map_cons, List.map_nil, ixI] at d1 d2 hgp IH ⊢
    cases q : rI ns r with
    | true =>
      rw [q] at d2
      simp only [Bool.true_or, cond_true]
      refine ⟨none, ?_⟩
      rw [show zV (acc ++ [k]) = zV acc ++ [[.str k]] by simp [zV]]
      refine zu Tryz.func23 rfl rfl ?_
      simp (disch := ((try simp only [LL]); omega)) only [↓GO, ↓DRW, GA, ren, zA, zd, refs, zb, cst, zl, zG, z7, E.load, E.store, zF, isC, bin, zH, zI, una, z8, za, zh, zJ, blt, fnV, asArg, ze, zn, zo, zj, zi, zg, zk, zr, z6, zD, zE, E.mkS, zc, unN, zK, zm, zz, zB, zf, zL, zq, GS, simprocAttr, GZ, c, hget, hgp, d1, d2, hsl, zx, zZ, xK]
      all_goals (refine yP (by kernel_rfl) ?_)
      all_goals (try simp (disch := ((try simp only [LL]); omega)) only [↓GO, ↓DRW, GA, ren, zA, zd, refs, zb, cst, zl, zG, z7, E.load, E.store, zF, isC, bin, zH, zI, una, z8, za, zh, zJ, blt, fnV, asArg, ze, zn, zo, zj, zi, zg, zk, zr, z6, zD, zE, E.mkS, zc, unN, zK, zm, zz, zB, zf, zL, zq, GS, simprocAttr, GZ, c, hget, hgp, d1, d2, hsl, zx, zZ, xK])
    | false =>
      rw [q] at d2
      simp only [Bool.false_or]
      refine ⟨cap', ?_⟩
      generalize cond (rest.any (rI ns)) [k] [] = Z at *
      generalize m + cond (rest.any (rI ns)) 1 0 = m' at *
      refine zu Tryz.func23 rfl rfl ?_
      simp (disch := ((try simp only [LL]); omega)) only [↓GO, ↓DRW, GA, ren, zA, zd, refs, zb, cst, zl, zG, z7, E.load, E.store, zF, isC, bin, zH, zI, una, z8, za, zh, zJ, blt, fnV, asArg, ze, zn, zo, zj, zi, zg, zk, zr, z6, zD, zE, E.mkS, zc, unN, zK, zm, zz, zB, zf, zL, zq, GS, simprocAttr, GZ, c, hget, hgp, d1, d2, hsl, zx, zZ, IH, xK]
      all_goals (refine yP (by kernel_rfl) ?_)
      all_goals (try simp (disch := ((try simp only [LL]); omega)) only [↓GO, ↓DRW, GA, ren, zA, zd, refs, zb, cst, zl, zG, z7, E.load, E.store, zF, isC, bin, zH, zI, una, z8, za, zh, zJ, blt, fnV, asArg, ze, zn, zo, zj, zi, zg, zk, zr, z6, zD, zE, E.mkS, zc, unN, zK, zm, zz, zB, zf, zL, zq, GS, simprocAttr, GZ, c, hget, hgp, d1, d2, hsl, zx, zZ, IH, xK])
theorem Yh (g : zU) (k : Str) : ∀ r ∈ v7 g k, yH g = true ∧ ∃ p, vM g.packs r = some p := by
  intro r hr
  unfold v7 at hr
  cases hg : yH g with
  | true => rw [hg, cond_true] at hr; exact ⟨rfl, ky g.packs [k] r hr⟩
  | false => rw [hg] at hr; simp at hr
theorem cn (g : zU) (k : Str) : (v7 g k).length ≤ g.packs.length := by
  unfold v7
  cases yH g with
  | true => exact mb g.packs [k]
  | false => simp
theorem c_rtI (g : zU) (hB : GB g) (k : Str) : zC (EV Tryz.prog pol) 44 [.agg (g.enc.map .t), .t (.list 1 [[.str k]])] = some (.t (.list 1 (zV (v7 g k)))) := by
  unfold v7
  cases hg : yH g with
  | true => exact c_reI g hB [k] (by simp) hg
  | false => exact WB g hB [k] hg
theorem Yw (acc : List Str) (q : Str → Bool) (k : Str) (rest : List Str) : (acc ++ cond (q k) [k] []) ++ rest.filter q = acc ++ (k :: rest).filter q ∧ cond (q k) 1 0 + (rest.filter q).length = ((k :: rest).filter q).length ∧ (acc ++ cond (q k) [k] []).length = acc.length + cond (q k) 1 0 := by
  rw [List.filter_cons]
  cases q k with
  | true => simp; omega
  | false => simp
theorem R4 (g : zU) (hB : GB g) (ns : List zt) (hl : ns.length ≤ 1048576) (hb : ∀ n ∈ ns, n.yg ≤ 1048576) : ∀ (rest pre : List Str) (acc : List Str) (m : Nat) (cap : Option Nat), g.top = pre ++ rest → m = acc.length → m + rest.length ≤ 1048576 → ∃ cap',
    EV Tryz.prog pol (.loop 23 58 0 [.t (.list 3 (zt.zW ns)), .ptr 0 0 0, .sl 1 0 m cap, .t (.list 1 (zV g.top)), .t (.int .i64 (g.top.length : Int)), .t (.int .i64 (pre.length : Int))] [.vs 2 [g.enc.map .t], .ts 1 (zV acc)])
      = some (.loop (.exit 0) [.sl 0 0 (m + (rest.filter (qW g ns)).length) cap'] [.ts 1 (zV (acc ++ rest.filter (qW g ns)))])
  | [], pre, acc, m, cap, h, hm, hmM => by
    have c : decide ((pre.length : Int) < (g.top.length : Int)) = false := by simp [h]
    refine ⟨cap, ?_⟩
    clear hB
    obtain ⟨top, packs⟩ := g
    simp only at c h
    simp only [List.filter_nil, List.append_nil, List.length_nil, Nat.add_zero, zU.enc, List.map_cons, List.map_nil]
    refine zu Tryz.func23 rfl rfl ?_
    simp (disch := ((try simp only [LL]); omega)) only [↓GO, ↓DRW, GA, ren, zA, zd, refs, zb, cst, zl, zG, z7, E.load, E.store, zF, isC, bin, zH, zI, una, z8, za, zh, zJ, blt, fnV, asArg, ze, zn, zo, zj, zi, zg, zk, zr, z6, zD, zE, E.mkS, zc, unN, zK, zm, zz, zB, zf, zL, zq, GS, simprocAttr, GZ, c, zZ]
  | k :: rest, pre, acc, m, cap, h, hm, hmM => by
    have c : decide ((pre.length : Int) < (g.top.length : Int)) = true := by simp [h]; omega
    have hget : (zV g.top)[pre.length]? = some [.str k] := uf (by rw [h]; simp)
    have hlen : pre.length + rest.length + 1 ≤ g.top.length := by rw [h]; simp; omega
    have htl := hB.len
    have d1 := c_rtI g hB k
    have hrl := cn g k
    simp only [List.length_cons] at hmM
    obtain ⟨e1, e2, e3⟩ := Yw acc (qW g ns) k rest
    obtain ⟨c1, L⟩ := UJ g hB ns hl hb k (.list 1 (zV g.top)) (.int .i64 (g.top.length : Int)) (.int .i64 (pre.length : Int)) (v7 g k) (by omega) (Yh g k) acc m cap hm (by omega) (v7 g k) [] rfl
    rw [show (v7 g k).any (rI ns) = qW g ns k from rfl] at L
    obtain ⟨c2, IH⟩ := R4 g hB ns hl hb rest (pre ++ [k]) (acc ++ cond (qW g ns k) [k] []) (m + cond (qW g ns k) 1 0) c1 (by rw [h]; simp) (by rw [e3, hm]) (by cases qW g ns k <;> simp only [cond_true, cond_false] <;> omega)
    rw [show ((pre ++ [k]).length : Int) = (pre.length : Int) + 1 by simp, e1, Nat.add_assoc, e2] at IH
    refine ⟨c2, ?_⟩
    clear hB h hb e1 e2 e3
    obtain ⟨top, packs⟩ := g
    simp only at c hget hlen htl
    simp only [List.length_nil, Int.natCast_zero, zU.enc, List.map_cons, List.map_nil] at d1 L IH ⊢
    generalize acc ++ cond (qW ⟨top, packs⟩ ns k) [k] [] = Y at *
    generalize acc ++ (k :: rest).filter (qW ⟨top, packs⟩ ns) = Z at *
    generalize m + ((k :: rest).filter (qW ⟨top, packs⟩ ns)).length = m2 at *
    generalize m + cond (qW ⟨top, packs⟩ ns k) 1 0 = m1 at *
    generalize v7 ⟨top, packs⟩ k = R at *
    refine zu Tryz.func23 rfl rfl ?_
    simp (disch := ((try simp only [LL]); omega)) only [↓GO, ↓DRW, GA, ren, zA, zd, refs, zb, cst, zl, zG, z7, E.load, E.store, zF, isC, bin, zH, zI, una, z8, za, zh, zJ, blt, fnV, asArg, ze, zn, zo, zj, zi, zg, zk, zr, z6, zD, zE, E.mkS, zc, unN, zK, zm, zz, zB, zf, zL, zq, GS, simprocAttr, GZ, c, hget, d1, L, zO, zx, zZ, IH]
theorem c_blI (g : zU) (hB : GB g) (ns : List zt) (hl : ns.length ≤ 1048576) (hb : ∀ n ∈ ns, n.yg ≤ 1048576) : ∃ cap, EV Tryz.prog pol (.callO false 23 [.agg (g.enc.map .t), .t (.list 3 (zt.zW ns))] []) = some (.call (.sl 0 0 (xV g ns).length cap) [.ts 1 (zV (xV g ns))]) := by
  have htl := hB.len
  obtain ⟨cap, L⟩ := R4 g hB ns hl hb g.top [] [] 0 (some 0) rfl rfl (by omega)
  refine ⟨cap, ?_⟩
  rw [show zV [] = [] from rfl, show g.top.filter (qW g ns) = xV g ns from rfl] at L
  clear hB hb
  obtain ⟨top, packs⟩ := g
  simp only [List.length_nil, Int.natCast_zero, Nat.zero_add, List.nil_append, zU.enc, List.map_cons, List.map_nil] at L ⊢
  generalize xV ⟨top, packs⟩ ns = Z at *
  refine yM Tryz.func23 rfl (by kernel_rfl) ?_
  unfold Tryz.f23
  simp (disch := ((try simp only [LL]); omega)) only [↓GO, ↓DRW, GA, ren, zA, zd, refs, zb, cst, zl, zG, z7, E.load, E.store, zF, isC, bin, zH, zI, una, z8, za, zh, zJ, blt, fnV, asArg, ze, zn, zo, zj, zi, zg, zk, zr, z6, zD, zE, E.mkS, zc, unN, zK, zm, zz, zB, zf, zL, zq, GS, simprocAttr, GZ, L, zO, zZ]
theorem ZP (l : List Str) (s : Str) : (yU l s).length ≤ l.length + 1 := by
  cases h : atS l s with
  | true => rw [lD l s h]; omega
  | false =>
    rw [nF l s h]
    have := nv l s
    simp only [List.length_append, List.length_take, List.length_cons, List.length_drop]; omega
theorem Sx (ns : List zt) (k : Str) (rs acc : List Str) : (blS ns k rs acc).length ≤ acc.length + 1 := by
  rw [hX]
  cases rs.any (rI ns) with
  | true => exact ZP acc k
  | false => simp
theorem iV (g : zU) (hB : GB g) (hg : yH g = true) (ns : List zt) (hl : ns.length ≤ 1048576) (hb : ∀ n ∈ ns, n.yg ≤ 1048576) (k : Str) (i : Nat) (hi : (zV g.top)[i]? = some [.str k]) (rs : List Str) (hrl : rs.length ≤ 1048576) (hrs : ∀ r ∈ rs, ∃ p, vM g.packs r = some p) : ∀ (rest pre : List Str) (acc : List Str) (m : Nat) (cap : Option Nat), rs = pre ++ rest → m = acc.length → m + rest.length ≤ 1073741824 → ∃ cap',
    EV Tryz.prog pol (.loop 22 7462 0 [.t (.list 3 (zt.zW ns)), .ptr 0 0 0, .sl 1 0 m cap, .t (.int .i64 (i : Int)), .t (.list 1 (zV rs)), .t (.int .i64 (pre.length : Int))] [.vs 2 [g.enc.map .t], .ts 1 (zV acc)])
      = some (.loop (.exit 2) [.t (.list 3 (zt.zW ns)), .ptr 0 0 0, .sl 1 0 (blS ns k rest acc).length cap', .t (.int .i64 (i : Int))] [.vs 2 [g.enc.map .t], .ts 1 (zV (blS ns k rest acc))])
  | [], pre, acc, m, cap, h, hm, hmM => by
    have c : decide ((pre.length : Int) < (rs.length : Int)) = false := by simp [h]
    refine ⟨cap, ?_⟩
    clear hB hg hrs hi
    obtain ⟨top, packs⟩ := g
    simp only [blS, ← hm, zU.enc, List.map_cons, List.map_nil]
    refine zu Tryz.func22 rfl rfl ?_
    simp (disch := ((try simp only [LL]); omega)) only [↓GO, ↓DRW, GA, ren, zA, zd, refs, zb, cst, zl, zG, z7, E.load, E.store, zF, isC, bin, zH, zI, una, z8, za, zh, zJ, blt, fnV, asArg, ze, zn, zo, zj, zi, zg, zk, zr, z6, zD, zE, E.mkS, zc, unN, zK, zm, zz, zB, zf, zL, zq, GS, simprocAttr, GZ, c, zO, zZ]
  | r :: rest, pre, acc, m, cap, h, hm, hmM => by
    have c : decide ((pre.length : Int) < (rs.length : Int)) = true := by simp [h]; omega
    have hget : (zV rs)[pre.length]? = some [.str r] := uf (by rw [h]; simp)
    have hlen : pre.length + rest.length + 1 ≤ rs.length := by rw [h]; simp; omega
    obtain ⟨p, hf⟩ := hrs r (by rw [h]; simp)
    obtain ⟨hp, hkp, _⟩ := sw hf
    have hpb := hB.len.2.2 p hp
    have hsk := oq (rF hg p hp).1
    rw [hkp] at hsk
    have hrb : r.length ≤ 4611686018427387904 := by have := TU p; rw [hkp] at this; omega
    have d1 := c_skR r hrb
    rw [hsk] at d1
    simp only [zN.yg] at hpb
    have d2 := RU ns hl hb p.name p.version (by omega) (by omega)
    rw [← ZM hg hp hkp ns] at d2
    simp only [List.length_cons] at hmM
    clear hpb hsk hrb hf hkp hp
    generalize p.name = pn at *
    generalize p.version = pv at *
    rw [blS]
    cases q : rI ns r with
    | false =>
      rw [q] at d2
      obtain ⟨cap', IH⟩ := iV g hB hg ns hl hb k i hi rs hrl hrs rest (pre ++ [r]) acc m cap (by rw [h]; simp) hm (by omega)
      rw [show ((pre ++ [r]).length : Int) = (pre.length : Int) + 1 by simp] at IH
      refine ⟨cap', ?_⟩
      rw [cond_false]
      clear h hb hB hrs hg
      obtain ⟨top, packs⟩ := g
      simp only [zU.enc, List.map_cons, List.map_nil] at hi IH ⊢
      generalize blS ns k rest acc = Z at *
      refine zu Tryz.func22 rfl rfl ?_
      simp (disch := ((try simp only [LL]); omega)) only [↓GO, ↓DRW, GA, ren, zA, zd, refs, zb, cst, zl, zG, z7, E.load, E.store, zF, isC, bin, zH, zI, una, z8, za, zh, zJ, blt, fnV, asArg, ze, zn, zo, zj, zi, zg, zk, zr, z6, zD, zE, E.mkS, zc, unN, zK, zm, zz, zB, zf, zL, zq, GS, simprocAttr, GZ, c, hget, d1, d2, zO, zx, zZ, IH]
    | true =>
      rw [q] at d2
      have hsl : (zV acc).length = m := by rw [zO, hm]
      rw [cond_true]
      cases ha : atS acc k with
      | true =>
        have d3 := RX acc (by omega) k m hm cap ha
        rw [lD acc k ha]
        obtain ⟨cap', IH⟩ := iV g hB hg ns hl hb k i hi rs hrl hrs rest (pre ++ [r]) acc m cap (by rw [h]; simp) hm (by omega)
        rw [show ((pre ++ [r]).length : Int) = (pre.length : Int) + 1 by simp] at IH
        refine ⟨cap', ?_⟩
        clear h hb hB hrs hg
        obtain ⟨top, packs⟩ := g
        simp only [zU.enc, List.map_cons, List.map_nil] at hi IH ⊢
        generalize blS ns k rest acc = Z at *
        refine zu Tryz.func22 rfl rfl ?_
        simp (disch := ((try simp only [LL]); omega)) only [↓GO, ↓DRW, GA, ren, zA, zd, refs, zb, cst, zl, zG, z7, E.load, E.store, zF, isC, bin, zH, zI, una, z8, za, zh, zJ, blt, fnV, asArg, ze, zn, zo, zj, zi, zg, zk, zr, z6, zD, zE, E.mkS, zc, unN, zK, zm, zz, zB, zf, zL, zq, GS, simprocAttr, GZ, c, hget, hi, d1, d2, d3, hsl, zO, zx, zZ, IH]
      | false =>
        have d3 := UY acc (by omega) k m hm cap ha
        have hal := ZP acc k
        have hml : (yU acc k).length = m + 1 := by
          rw [nF acc k ha]
          have := nv acc k
          simp only [List.length_append, List.length_take, List.length_cons, List.length_drop]; omega
        obtain ⟨cap', IH⟩ := iV g hB hg ns hl hb k i hi rs hrl hrs rest (pre ++ [r]) (yU acc k) (m + 1) none (by rw [h]; simp) hml.symm (by omega)
        rw [show ((pre ++ [r]).length : Int) = (pre.length : Int) + 1 by simp] at IH
        refine ⟨cap', ?_⟩
        clear h hb hB hrs hg hal hml
        obtain ⟨top, packs⟩ := g
        simp only [zU.enc, List.map_cons, List.map_nil] at hi IH ⊢
        generalize blS ns k rest (yU acc k) = Z at *
        generalize yU acc k = acc' at *
        refine zu Tryz.func22 rfl rfl ?_
        simp (disch := ((try simp only [LL]); omega)) only [↓GO, ↓DRW, GA, ren, zA, zd, refs, zb, cst, zl, zG, z7, E.load, E.store, zF, isC, bin, zH, zI, una, z8, za, zh, zJ, blt, fnV, asArg, ze, zn, zo, zj, zi, zg, zk, zr, z6, zD, zE, E.mkS, zc, unN, zK, zm, zz, zB, zf, zL, zq, GS, simprocAttr, GZ, c, hget, hi, d1, d2, d3, hsl, zO, zx, zZ, IH]
theorem R3 (g : zU) (hB : GB g) (hg : yH g = true) (ns : List zt) (hl : ns.length ≤ 1048576) (hb : ∀ n ∈ ns, n.yg ≤ 1048576) : ∀ (rest pre : List Str) (acc : List Str) (m : Nat) (cap : Option Nat), g.top = pre ++ rest → m = acc.length → m + rest.length ≤ 2097152 → ∃ cap',
    EV Tryz.prog pol (.loop 22 58 0 [.t (.list 3 (zt.zW ns)), .ptr 0 0 0, .sl 1 0 m cap, .t (.int .i64 (pre.length : Int))] [.vs 2 [g.enc.map .t], .ts 1 (zV acc)])
      = some (.loop (.exit 0) [.sl 0 0 (blR g.packs ns rest acc).length cap'] [.ts 1 (zV (blR g.packs ns rest acc))])
  | [], pre, acc, m, cap, h, hm, hmM => by
    have c : decide ((pre.length : Int) < (g.top.length : Int)) = false := by simp [h]
    refine ⟨cap, ?_⟩
    clear hB hg
    obtain ⟨top, packs⟩ := g
    simp only at c h
    simp only [blR, ← hm, zU.enc, List.map_cons, List.map_nil]
    refine zu Tryz.func22 rfl rfl ?_
    simp (disch := ((try simp only [LL]); omega)) only [↓GO, ↓DRW, GA, ren, zA, zd, refs, zb, cst, zl, zG, z7, E.load, E.store, zF, isC, bin, zH, zI, una, z8, za, zh, zJ, blt, fnV, asArg, ze, zn, zo, zj, zi, zg, zk, zr, z6, zD, zE, E.mkS, zc, unN, zK, zm, zz, zB, zf, zL, zq, GS, simprocAttr, GZ, c, zO, zZ]
  | k :: rest, pre, acc, m, cap, h, hm, hmM => by
    have c : decide ((pre.length : Int) < (g.top.length : Int)) = true := by simp [h]; omega
    have hget : (zV g.top)[pre.length]? = some [.str k] := uf (by rw [h]; simp)
    have hlen : pre.length + rest.length + 1 ≤ g.top.length := by rw [h]; simp; omega
    have htl := hB.len
    have d0 := aa g hB
    rw [hg] at d0
    have d1 := c_reR g hB [k] (by simp) hg
    rw [show zV [k] = [[.str k]] from rfl] at d1
    have hrl := mb g.packs [k]
    simp only [List.length_cons] at hmM
    obtain ⟨c1, L⟩ := iV g hB hg ns hl hb k pre.length hget (yN g.packs [k]) (by omega) (ky g.packs [k]) (yN g.packs [k]) [] acc m cap rfl hm (by omega)
    have hbl := Sx ns k (yN g.packs [k]) acc
    obtain ⟨c2, IH⟩ := R3 g hB hg ns hl hb rest (pre ++ [k]) (blS ns k (yN g.packs [k]) acc) _ c1 (by rw [h]; simp) rfl (by omega)
    rw [show ((pre ++ [k]).length : Int) = (pre.length : Int) + 1 by simp] at IH
    refine ⟨c2, ?_⟩
    rw [blR]
    clear hB h hb hg hbl
    obtain ⟨top, packs⟩ := g
    simp only at c hget hlen htl
    simp only [List.length_nil, Int.natCast_zero, zU.enc, List.map_cons, List.map_nil] at d0 d1 L IH ⊢
    generalize blR packs ns rest (blS ns k (yN packs [k]) acc) = Z at *
    generalize blS ns k (yN packs [k]) acc = Y at *
    generalize yN packs [k] = R at *
    refine zu Tryz.func22 rfl rfl ?_
    simp (disch := ((try simp only [LL]); omega)) only [↓GO, ↓DRW, GA, ren, zA, zd, refs, zb, cst, zl, zG, z7, E.load, E.store, zF, isC, bin, zH, zI, una, z8, za, zh, zJ, blt, fnV, asArg, ze, zn, zo, zj, zi, zg, zk, zr, z6, zD, zE, E.mkS, zc, unN, zK, zm, zz, zB, zf, zL, zq, GS, simprocAttr, GZ, c, hget, d0, d1, L, zO, zx, zZ, IH]
    all_goals (refine yP (by kernel_rfl) ?_)
    all_goals (first | exact IH | simp (disch := ((try simp only [LL]); omega)) only [↓GO, ↓DRW, GA, ren, zA, zd, refs, zb, cst, zl, zG, z7, E.load, E.store, zF, isC, bin, zH, zI, una, z8, za, zh, zJ, blt, fnV, asArg, ze, zn, zo, zj, zi, zg, zk, zr, z6, zD, zE, E.mkS, zc, unN, zK, zm, zz, zB, zf, zL, zq, GS, simprocAttr, GZ, c, hget, d0, d1, L, zO, zx, zZ, IH])
theorem c_blR (g : zU) (hB : GB g) (ns : List zt) (hl : ns.length ≤ 1048576) (hb : ∀ n ∈ ns, n.yg ≤ 1048576) : zC (EV Tryz.prog pol) 22 [.agg (g.enc.map .t), .t (.list 3 (zt.zW ns))] = some (.t (.list 1 (zV (xV g ns)))) := by
  cases hg : yH g with
  | true =>
    have htl := hB.len
    obtain ⟨cap, L⟩ := R3 g hB hg ns hl hb g.top [] [] 0 (some 0) rfl rfl (by omega)
    rw [cN ns hg, show zV [] = [] from rfl] at L
    have ht : (zV (xV g ns)).take (xV g ns).length = zV (xV g ns) := by rw [← zO (xV g ns)]; simp
    clear hB hb hg
    obtain ⟨top, packs⟩ := g
    simp only [List.length_nil, Int.natCast_zero, Nat.zero_add, List.nil_append, zU.enc, List.map_cons, List.map_nil] at L ht ⊢
    generalize xV ⟨top, packs⟩ ns = Z at *
    apply zw
    refine zy rfl Tryz.func22 rfl (by kernel_rfl) ?_
    unfold Tryz.f22
    simp (disch := ((try simp only [LL]); omega)) only [↓GO, ↓DRW, GA, ren, zA, zd, refs, zb, cst, zl, zG, z7, E.load, E.store, zF, isC, bin, zH, zI, una, z8, za, zh, zJ, blt, fnV, asArg, ze, zn, zo, zj, zi, zg, zk, zr, z6, zD, zE, E.mkS, zc, unN, zK, zm, zz, zB, zf, zL, zq, GS, simprocAttr, GZ, L, ht, zZ]
  | false =>
    have d1 := aa g hB
    rw [hg] at d1
    rw [YO ns hg, show zV [] = [] from rfl]
    have L : EV Tryz.prog pol (.loop 22 58 0 [.t (.list 3 (zt.zW ns)), .ptr 0 0 0, .sl 1 0 0 (some 0), .t (.int .i64 0)] [.vs 2 [g.enc.map .t], .ts 1 []])
        = some (.loop (.exit 0) [.sl 0 0 0 (some 0)] [.ts 1 []]) := by
      clear hB hb hg
      obtain ⟨top, packs⟩ := g
      simp only [zU.enc, List.map_cons, List.map_nil] at d1 ⊢
      cases c : decide ((0 : Int) < (top.length : Int))
      all_goals
        refine zu Tryz.func22 rfl rfl ?_
        simp (disch := ((try simp only [LL]); omega)) only [↓GO, ↓DRW, GA, ren, zA, zd, refs, zb, cst, zl, zG, z7, E.load, E.store, zF, isC, bin, zH, zI, una, z8, za, zh, zJ, blt, fnV, asArg, ze, zn, zo, zj, zi, zg, zk, zr, z6, zD, zE, E.mkS, zc, unN, zK, zm, zz, zB, zf, zL, zq, GS, simprocAttr, GZ, c, d1, zO, zZ]
    clear hB hb hg
    obtain ⟨top, packs⟩ := g
    simp only [zU.enc, List.map_cons, List.map_nil] at L ⊢
    apply zw
    refine zy rfl Tryz.func22 rfl (by kernel_rfl) ?_
    unfold Tryz.f22
    simp (disch := ((try simp only [LL]); omega)) only [↓GO, ↓DRW, GA, ren, zA, zd, refs, zb, cst, zl, zG, z7, E.load, E.store, zF, isC, bin, zH, zI, una, z8, za, zh, zJ, blt, fnV, asArg, ze, zn, zo, zj, zi, zg, zk, zr, z6, zD, zE, E.mkS, zc, unN, zK, zm, zz, zB, zf, zL, zq, GS, simprocAttr, GZ, L, zZ]
    try rfl
end Go.Proofs.YtmcephnfcciloaaGreatDoor
/- What notices tell of a graph, by both: the functions. Conditions: those of each lemma. -/
namespace Go.Proofs.YtmcephnfcciloaaGreatDoor
open E
set_option linter.unusedSimpArgs false
set_option linter.unusedVariables false
set_option maxRecDepth 100000
end Go.Proofs.YtmcephnfcciloaaGreatDoor
/- The law of Audit. Conditions: those of each lemma. -/
namespace Go.Proofs.YtmcephnfcciloaaGreatDoor
open E
set_option linter.unusedSimpArgs false
set_option linter.unusedVariables false
set_option maxRecDepth 100000
theorem mR (ks : List Str) (n : Nat) (h : n = ks.length) : (zV ks).take n = zV ks := List.take_of_length_le (by rw [zO]; omega)
theorem XQ (cs : List zN) (n : Nat) (h : n = cs.length) : (ocE (zN.zW cs)).take n = ocE (zN.zW cs) := List.take_of_length_le (by rw [qR, zN.zT]; omega)
theorem To (cs : List zt) (n : Nat) (h : n = cs.length) : (zt.zW cs).take n = zt.zW cs := List.take_of_length_le (by rw [zt.zT]; omega)
end Go.Proofs.YtmcephnfcciloaaGreatDoor
/- The law of Blame. Conditions: those of each lemma. -/
namespace Go.Proofs.YtmcephnfcciloaaGreatDoor
open E
set_option linter.unusedSimpArgs false
set_option linter.unusedVariables false
set_option maxRecDepth 100000
theorem cO {g : zU} (hB : GB g) (ns : List zt) : (xV g ns).length ≤ 134217728 := by
  have h1 := hB.len
  have h2 : (xV g ns).length ≤ g.top.length := List.length_filter_le _ _
  omega
set_option maxHeartbeats 16000000 in
theorem lW (g : zU) (ns : List zt) (ho : g.ok) (hon : ∀ n ∈ ns, n.ok) (hb : g.yg + (ns.length + zt.ya ns) ≤ 1048576) :
    EV Tryz.prog pol (.call 5 [.agg (g.enc.map .t), .t (.list 3 (zt.zW ns))] []) = some (.call (.t (.bool true)) []) := by
  have hB : GB g := by unfold GB; omega
  have hnb : ∀ n ∈ ns, n.yg ≤ 1048576 := fun n hn => by have := zt.yq hn; omega
  have hsz := jx g ho 1048576 (by omega) (by omega)
  rw [wM (by omega)] at hsz
  have hsz2 := oY ns (by omega) (fun n hn => mL n (hon n hn)) (1048576 - (g.yg : Int)) (by omega) (by omega)
  rw [wM (by omega)] at hsz2
  have c2 : decide (1048576 - (g.yg : Int) < 0) = false := by apply decide_eq_false; omega
  have c3 : decide (1048576 - (g.yg : Int) - ((ns.length + zt.ya ns : Nat) : Int) < 0) = false := by apply decide_eq_false; omega
  have hto := RI g (by omega)
  have htO := RH g (by omega)
  have hno := gu ns (by omega) (fun n hn => mK n (hnb n hn))
  have hnO := Sg ns (by omega) (fun n hn => mK n (hnb n hn))
  have heqG := YM g (by omega)
  have heqN := gx ns (by omega) (fun n hn => cH n (hnb n hn))
  have hR := c_blR g hB ns (by omega) hnb
  have hZl := cO hB ns
  have heqS := sb (xV g ns) hZl
  have hb' := hb
  obtain ⟨top, packs⟩ := g
  simp only [zU.yg] at hb'
  have hcn := dy packs
  have hM1 := Sp top packs (by omega) (by omega) top.length packs.length rfl rfl (some top.length) (some packs.length) 1 (by omega)
  have hM2 := WH ns (by omega) (some ns.length) (1 + top.length + yO packs) (by omega) ns.length rfl
  have g1 : decide (((1 + top.length + yO packs + 3 * ns.length : Nat) : Int) < 0) = false := by apply decide_eq_false; omega
  have t1 := mR top top.length rfl
  have t2 := XQ packs packs.length rfl
  have t3 := To ns ns.length rfl
  have hnl := zt.zT ns
  unfold iN at heqG
  unfold Jh at htO
  unfold Ji at hto
  rw [show ((1 : Nat) : Int) = 1 from rfl] at hM1
  obtain ⟨cap, hI⟩ := c_blI ⟨top, packs⟩ hB ns (by omega) hnb
  generalize xV ⟨top, packs⟩ ns = Z at *
  have hM3 := iH Z hZl cap 1 (by omega) Z.length rfl
  have hH := Sr Z.length 1 hZl (by omega)
  rw [show ((1 : Nat) : Int) = 1 from rfl] at hM3 hH
  have g2 : decide (((1 + Z.length : Nat) : Int) < 0) = false := by apply decide_eq_false; omega
  have t4 := mR Z Z.length rfl
  have t5 := mR (mkS Z.length 1) Z.length (vD _ _).symm
  have f1 := vT Z
  clear ho hon hb hb' hnb hB hcn
  generalize (zU.mk top packs).yg = bt at *
  generalize zt.ya ns = bn at *
  simp only [zU.enc, List.map_cons, List.map_nil] at hsz hto htO heqG hR hI hM1 ⊢
  generalize yO packs = m0 at *
  generalize xU (1 + top.length) packs = mc at *
  generalize mkS Z.length 1 = msz at *
  generalize mkS top.length 1 = ms at *
  generalize sE ns.length (1 + top.length + m0) = mn at *
  refine zy rfl Tryz.func5 rfl (by kernel_rfl) ?_
  unfold Tryz.f5
  simp (disch := ((try simp only [LL]); omega)) only [↓GO, ↓DRW, GA, ren, zA, zd, refs, zb, cst, zl, zG, z7, E.load, E.store, zF, isC, bin, zH, zI, una, z8, za, zh, zJ, blt, fnV, asArg, ze, zn, zo, zj, zi, zg, zk, zr, z6, zD, zE, E.mkS, zc, unN, zK, zm, zz, zB, zf, zL, zq, GS, simprocAttr, yZ, x5, pZ, qk, pf, pe, wC, mkO, sH, tU, vL, pX, xk, qi, qh, xD, oc, oTs, oT, xo, xo.rowTs, sB, isL, Bool.not_false, Bool.true_and, Bool.and_true, Bool.and_self, List.flatMap_append, List.map_append, List.set_cons_zero, List.set_cons_succ, GZ, hsz, hsz2, c2, c3, hto, htO, hno, hnO, heqG, heqN, heqS, hR, hI, hM1, hM2, hM3, hH, g1, g2, t1, t2, t3, t4, t5, f1, List.drop_zero, fq, xW, xh, bne_self_eq_false, zZ]
theorem cF (g : zU) (ns : List zt) (ho : g.ok) (hl : ns.length ≤ 9223372036854775807) (hon : ∀ n ∈ ns, n.ok) :
    EV Tryz.prog pol (.call 5 [.agg (g.enc.map .t), .t (.list 3 (zt.zW ns))] []) = some (.call (.t (.bool true)) []) := by
  have hsz := jx g ho 1048576 (by omega) (by omega)
  by_cases hb1 : g.yg ≤ 1048576
  · by_cases hb : g.yg + (ns.length + zt.ya ns) ≤ 1048576
    · exact lW g ns ho hon hb
    · rw [wM (by omega)] at hsz
      have hsz2 := oY ns hl (fun n hn => mL n (hon n hn)) (1048576 - (g.yg : Int)) (by omega) (by omega)
      have hle : left (1048576 - (g.yg : Int)) (ns.length + zt.ya ns) = -1 := if_pos (by omega)
      rw [hle] at hsz2
      have c2 : decide (1048576 - (g.yg : Int) < 0) = false := by apply decide_eq_false; omega
      clear hb hle ho hon
      obtain ⟨top, packs⟩ := g
      generalize (zU.mk top packs).yg = bt at *
      simp only [zU.enc, List.map_cons, List.map_nil] at hsz ⊢
      refine zy rfl Tryz.func5 rfl (by kernel_rfl) ?_
      unfold Tryz.f5
      simp (disch := ((try simp only [LL]); omega)) only [↓GO, ↓DRW, GA, ren, zA, zd, refs, zb, cst, zl, zG, z7, E.load, E.store, zF, isC, bin, zH, zI, una, z8, za, zh, zJ, blt, fnV, asArg, ze, zn, zo, zj, zi, zg, zk, zr, z6, zD, zE, E.mkS, zc, unN, zK, zm, zz, zB, zf, zL, zq, GS, simprocAttr, yZ, x5, pZ, qk, pf, pe, wC, mkO, sH, tU, vL, pX, xk, qi, qh, xD, oc, oTs, oT, xo, xo.rowTs, sB, isL, Bool.not_false, Bool.true_and, Bool.and_true, Bool.and_self, List.flatMap_append, List.map_append, List.set_cons_zero, List.set_cons_succ, GZ, hsz, hsz2, c2]
  · have hle : left 1048576 g.yg = -1 := if_pos (by omega)
    rw [hle] at hsz
    clear hb1 hle ho hon
    obtain ⟨top, packs⟩ := g
    simp only [zU.enc, List.map_cons, List.map_nil] at hsz ⊢
    refine zy rfl Tryz.func5 rfl (by kernel_rfl) ?_
    unfold Tryz.f5
    simp (disch := ((try simp only [LL]); omega)) only [↓GO, ↓DRW, GA, ren, zA, zd, refs, zb, cst, zl, zG, z7, E.load, E.store, zF, isC, bin, zH, zI, una, z8, za, zh, zJ, blt, fnV, asArg, ze, zn, zo, zj, zi, zg, zk, zr, z6, zD, zE, E.mkS, zc, unN, zK, zm, zz, zB, zf, zL, zq, GS, simprocAttr, yZ, x5, pZ, qk, pf, pe, wC, mkO, sH, tU, vL, pX, xk, qi, qh, xD, oc, oTs, oT, xo, xo.rowTs, sB, isL, Bool.not_false, Bool.true_and, Bool.and_true, Bool.and_self, List.flatMap_append, List.map_append, List.set_cons_zero, List.set_cons_succ, GZ, hsz]
end Go.Proofs.YtmcephnfcciloaaGreatDoor
/- The law of Blame at what is handed in. Conditions: none. -/
namespace Go.Proofs.YtmcephnfcciloaaGreatDoor
open E
theorem WU (xs : List V) (h : WTA Tryz.prog [25, 26] xs) : EV Tryz.prog pol (.call 5 xs []) = some (.call (.t (.bool true)) []) := by
  obtain ⟨g, ns, rfl, ho, hl, hon⟩ := dZ h
  exact cF g ns ho hl hon
end Go.Proofs.YtmcephnfcciloaaGreatDoor

/- Joined: K15 K16 K17 K18 K19 W7 W8 M1 M2 M3 M4 M5 M6 M7 M8 M9 B1 B2 B3 B4. Conditions: those of each lemma. -/
import Derived.Test.YtmcephnfcciloaaGreatDoorUJ
import Derived.Test.YtmcephnfcciloaaGreatDoorUH
import Derived.Test.YtmcephnfcciloaaGreatDoorUG
set_option linter.unusedVariables false
set_option linter.unusedSimpArgs false
namespace Go.Proofs.YtmcephnfcciloaaGreatDoor
open E
set_option linter.unusedSimpArgs false
set_option linter.unusedVariables false
set_option maxRecDepth 100000
def bT : Option Bd → V
  | some b => .tup [.agg [.t (.str b.1), .t (.str b.2)], .t (.bool true)]
  | none => .tup [.agg [.t (.str []), .t (.str [])], .t (.bool false)]
theorem SX (s : Str) : alT s = bT (x6 s) := by
  unfold alT bT
  cases x6 s with
  | none => rfl
  | some b => obtain ⟨a, b⟩ := b; rfl
theorem mM (x : UInt8) (c : UInt8) : ((x.toNat : Int) == (c.toNat : Int)) = (x == c) := by
  rw [Bool.eq_iff_iff]; simp only [beq_iff_eq]
  constructor
  · intro h; exact UInt8.toNat_inj.1 (by omega)
  · intro h; rw [h]
theorem Sb (s : Str) (hl : s.length ≤ 1048700) : zE (EV Tryz.prog pol) 116 [.t (.str s)] = some (.t (.bool (isE s))) := by
  have h := oo s hl
  unfold rvT at h
  unfold isE isV
  generalize (zA s).1 = v at *
  simp only [Ver.enc, List.map_cons, List.map_nil] at h
  cases hk : (zA s).2 <;> rw [hk] at h <;> cases hn : (s == [])
  all_goals
    apply zu
    refine zw rfl Tryz.func116 rfl (by kernel_rfl) ?_
    unfold Tryz.f116
    simp (disch := ((try simp only [LL]); omega)) only [↓GO, ↓DRW, GA, ren, zB, zf, refs, zb, cst, zl, zH, z7, E.load, E.store, zG, isC, bin, zI, zJ, una, z8, za, zh, zK, blt, fnV, asArg, zd, zn, zo, zj, zi, zg, zk, zr, z6, zD, zF, mkS, zc, unN, zM, zm, zy, zC, ze, zN, zq, GS, Int.reduceToNat, Nat.reduceGT, ↓reduceIte, Nat.reduceAdd, Nat.reduceMul, Nat.reduceSub, Nat.reduceEqDiff, Nat.reduceLeDiff, Nat.reduceLT, Nat.reduceBEq, Int.reduceBEq, Int.reduceBNe, Int.reduceEq, Int.reduceLT, Int.reduceLE, Int.reduceGT, Int.reduceNeg, reduceCtorEq, GZ, h, hn]
theorem VP (l : List Bd) (hl : l.length ≤ 4194304) (hb : ∀ b ∈ l, b.1.length ≤ 1048700 ∧ b.2.length ≤ 1048700) : ∀ (rest pre : List Bd), l = pre ++ rest →
    EV Tryz.prog pol (.loop 88 26 0 [.t (.list 2 (bdT l)), .t (.int .i64 (pre.length : Int))] []) = some (cond (rest.all fun b => isE b.1 && isE b.2) (.loop (.exit 0) [.t (.list 2 (bdT l)), .bad] []) (.loop .ret [.t (.list 2 (bdT l)), .t (.bool false)] []))
  | [], pre, hs => by
    have c : decide ((pre.length : Int) < (l.length : Int)) = false := by simp [hs]
    simp only [List.all_nil, cond_true]
    refine zz Tryz.func88 rfl rfl ?_
    simp (disch := ((try simp only [LL]); omega)) only [↓GO, ↓DRW, GA, ren, zB, zf, refs, zb, cst, zl, zH, z7, E.load, E.store, zG, isC, bin, zI, zJ, una, z8, za, zh, zK, blt, fnV, asArg, zd, zn, zo, zj, zi, zg, zk, zr, z6, zD, zF, mkS, zc, unN, zM, zm, zy, zC, ze, zN, zq, GS, Int.reduceToNat, Nat.reduceGT, ↓reduceIte, Nat.reduceAdd, Nat.reduceMul, Nat.reduceSub, Nat.reduceEqDiff, Nat.reduceLeDiff, Nat.reduceLT, Nat.reduceBEq, Int.reduceBEq, Int.reduceBNe, Int.reduceEq, Int.reduceLT, Int.reduceLE, Int.reduceGT, Int.reduceNeg, reduceCtorEq, GZ, c, xM]
  | x :: rest, pre, hs => by
    have c : decide ((pre.length : Int) < (l.length : Int)) = true := by simp [hs]; omega
    have hget : (bdT l)[pre.length]? = some [.str x.1, .str x.2] := by rw [hs]; exact wy (fun b : Bd => [T.str b.1, T.str b.2]) pre x rest
    have hlen : pre.length + rest.length + 1 ≤ l.length := by rw [hs]; simp; omega
    have hx := hb x (by rw [hs]; simp)
    have h1 := Sb x.1 hx.1
    have h2 := Sb x.2 hx.2
    have IH := VP l hl hb rest (pre ++ [x]) (by rw [hs]; simp)
    rw [show ((pre ++ [x]).length : Int) = (pre.length : Int) + 1 by simp] at IH
    clear hs hb
    rw [List.all_cons]
    generalize isE x.1 = a1 at *
    generalize isE x.2 = a2 at *
    cases a1 <;> cases a2
    all_goals
      refine zz Tryz.func88 rfl rfl ?_
      simp (disch := ((try simp only [LL]); omega)) only [↓GO, ↓DRW, GA, ren, zB, zf, refs, zb, cst, zl, zH, z7, E.load, E.store, zG, isC, bin, zI, zJ, una, z8, za, zh, zK, blt, fnV, asArg, zd, zn, zo, zj, zi, zg, zk, zr, z6, zD, zF, mkS, zc, unN, zM, zm, zy, zC, ze, zN, zq, GS, Int.reduceToNat, Nat.reduceGT, ↓reduceIte, Nat.reduceAdd, Nat.reduceMul, Nat.reduceSub, Nat.reduceEqDiff, Nat.reduceLeDiff, Nat.reduceLT, Nat.reduceBEq, Int.reduceBEq, Int.reduceBNe, Int.reduceEq, Int.reduceLT, Int.reduceLE, Int.reduceGT, Int.reduceNeg, reduceCtorEq, GZ, c, hget, h1, h2, zx, xM, IH]
theorem jR (l : List Bd) (hl : l.length ≤ 4194304) (hb : ∀ b ∈ l, b.1.length ≤ 1048700 ∧ b.2.length ≤ 1048700) : zE (EV Tryz.prog pol) 88 [.t (.list 2 (bdT l))] = some (.t (.bool (xk l))) := by
  have L := VP l hl hb l [] rfl
  have h := xL (l.length : Int) 1 8
  simp only [List.length_nil, Int.natCast_zero] at L
  unfold xk
  generalize B2 (l.length : Int) 1 8 = b2 at *
  cases ha : (l.all fun b => isE b.1 && isE b.2) <;> rw [ha] at L <;> simp only [cond_true, cond_false] at L
  all_goals
    apply zu
    refine zw rfl Tryz.func88 rfl (by kernel_rfl) ?_
    unfold Tryz.f88
    simp (disch := ((try simp only [LL]); omega)) only [↓GO, ↓DRW, GA, ren, zB, zf, refs, zb, cst, zl, zH, z7, E.load, E.store, zG, isC, bin, zI, zJ, una, z8, za, zh, zK, blt, fnV, asArg, zd, zn, zo, zj, zi, zg, zk, zr, z6, zD, zF, mkS, zc, unN, zM, zm, zy, zC, ze, zN, zq, GS, Int.reduceToNat, Nat.reduceGT, ↓reduceIte, Nat.reduceAdd, Nat.reduceMul, Nat.reduceSub, Nat.reduceEqDiff, Nat.reduceLeDiff, Nat.reduceLT, Nat.reduceBEq, Int.reduceBEq, Int.reduceBNe, Int.reduceEq, Int.reduceLT, Int.reduceLE, Int.reduceGT, Int.reduceNeg, reduceCtorEq, GZ, L, h, xM]
theorem U8 (s : Str) (v : Ver) (p : Int) (hs : v.sm) (hp : p = 0 ∨ p = 1 ∨ p = 2) (h1 : -1 ≤ v.maj ∧ v.maj ≤ 999999999) (h2 : -1 ≤ v.min ∧ v.min ≤ 999999999) (h3 : -1 ≤ v.pat ∧ v.pat ≤ 999999999) :
    zE (EV Tryz.prog pol) 109 [.t (.str s), .agg (v.enc.map .t), .t (.int .i64 p)] = some (bT (mN v s p)) := by
  have d := jE v p hs hp h1 h2 h3
  unfold mN bT
  generalize vi v p = bl at *
  obtain ⟨t, ok⟩ := bl
  simp only [Ver.enc, List.map_cons, List.map_nil] at d ⊢
  cases ok <;> simp only [cond_true, cond_false] at d ⊢
  all_goals
    apply zu
    refine zw rfl Tryz.func109 rfl (by kernel_rfl) ?_
    unfold Tryz.f109
    simp (disch := ((try simp only [LL]); omega)) only [↓GO, ↓DRW, GA, ren, zB, zf, refs, zb, cst, zl, zH, z7, E.load, E.store, zG, isC, bin, zI, zJ, una, z8, za, zh, zK, blt, fnV, asArg, zd, zn, zo, zj, zi, zg, zk, zr, z6, zD, zF, mkS, zc, unN, zM, zm, zy, zC, ze, zN, zq, GS, Int.reduceToNat, Nat.reduceGT, ↓reduceIte, Nat.reduceAdd, Nat.reduceMul, Nat.reduceSub, Nat.reduceEqDiff, Nat.reduceLeDiff, Nat.reduceLT, Nat.reduceBEq, Int.reduceBEq, Int.reduceBNe, Int.reduceEq, Int.reduceLT, Int.reduceLE, Int.reduceGT, Int.reduceNeg, reduceCtorEq, GZ, d]
theorem XO (v : Ver) : zE (EV Tryz.prog pol) 110 [.agg (v.enc.map .t)] = some (.t (.int .i64 (vN v))) := by
  unfold vN
  simp only [Ver.enc, List.map_cons, List.map_nil]
  cases h1 : decide (v.maj > 0) <;> cases h2 : decide (v.min > 0) <;> simp only [cond_true, cond_false]
  all_goals
    apply zu
    refine zw rfl Tryz.func110 rfl (by kernel_rfl) ?_
    unfold Tryz.f110
    simp (disch := ((try simp only [LL]); omega)) only [↓GO, ↓DRW, GA, ren, zB, zf, refs, zb, cst, zl, zH, z7, E.load, E.store, zG, isC, bin, zI, zJ, una, z8, za, zh, zK, blt, fnV, asArg, zd, zn, zo, zj, zi, zg, zk, zr, z6, zD, zF, mkS, zc, unN, zM, zm, zy, zC, ze, zN, zq, GS, Int.reduceToNat, Nat.reduceGT, ↓reduceIte, Nat.reduceAdd, Nat.reduceMul, Nat.reduceSub, Nat.reduceEqDiff, Nat.reduceLeDiff, Nat.reduceLT, Nat.reduceBEq, Int.reduceBEq, Int.reduceBNe, Int.reduceEq, Int.reduceLT, Int.reduceLE, Int.reduceGT, Int.reduceNeg, reduceCtorEq, GZ, h1, h2]
theorem Zw (v : Ver) : vN v = 0 ∨ vN v = 1 ∨ vN v = 2 := by
  unfold vN
  cases decide (v.maj > 0) <;> cases decide (v.min > 0) <;> simp
theorem Th (s : Str) (hl : s.length ≤ 4194304) : zE (EV Tryz.prog pol) 151 [.t (.str s)] = some (.t (.list 1 (y6 (yi 32 s)))) := by
  have h := mJ s 32 hl
  rw [show (((32 : UInt8).toNat : Nat) : Int) = 32 from rfl] at h
  apply zu
  refine zw rfl Tryz.func151 rfl (by kernel_rfl) ?_
  unfold Tryz.f151
  simp (disch := ((try simp only [LL]); omega)) only [↓GO, ↓DRW, GA, ren, zB, zf, refs, zb, cst, zl, zH, z7, E.load, E.store, zG, isC, bin, zI, zJ, una, z8, za, zh, zK, blt, fnV, asArg, zd, zn, zo, zj, zi, zg, zk, zr, z6, zD, zF, mkS, zc, unN, zM, zm, zy, zC, ze, zN, zq, GS, Int.reduceToNat, Nat.reduceGT, ↓reduceIte, Nat.reduceAdd, Nat.reduceMul, Nat.reduceSub, Nat.reduceEqDiff, Nat.reduceLeDiff, Nat.reduceLT, Nat.reduceBEq, Int.reduceBEq, Int.reduceBNe, Int.reduceEq, Int.reduceLT, Int.reduceLE, Int.reduceGT, Int.reduceNeg, reduceCtorEq, GZ, h]
theorem XD (s : Str) (hl : s.length ≤ 1048600) : zE (EV Tryz.prog pol) 112 [.t (.str s)] = some (bT (wK s)) := by
  have h1 := mJ s 46 (by omega)
  rw [show (((46 : UInt8).toNat : Nat) : Int) = 46 from rfl] at h1
  have hfl : (wo s).length ≤ 1048700 := by unfold wo; cases (((yi 46 s).length : Int) == 1) <;> simp <;> omega
  have h2 := oo (wo s) hfl
  obtain ⟨m1, m2, m3, m4, m5, m6, m7⟩ := yW (wo s) hfl
  have h3 := xL ((yi 46 s).length : Int) 1 2
  have hg := jQ (zA (wo s)).1.pre
  have h4 := fun hp => jE (zA (wo s)).1 (((yi 46 s).length : Int) - 1) m1 hp ⟨m3, m2⟩ ⟨m5, m4⟩ ⟨m7, m6⟩
  have hcn : 1 ≤ (yi 46 s).length := by
    cases hc : yi 46 s with
    | nil => exact absurd hc (yU 46 s)
    | cons p q => simp
  have hbk := xI 46 s
  have hB : B2 ((yi 46 s).length : Int) 1 2 = true → ((yi 46 s).length : Int) - 1 = 0 ∨ ((yi 46 s).length : Int) - 1 = 1 ∨ ((yi 46 s).length : Int) - 1 = 2 := fun h => by
    unfold B2 at h
    simp only [Bool.and_eq_true, decide_eq_true_eq] at h
    omega
  have h5 := fun h => h4 (hB h)
  clear h4 hB
  unfold wK isV
  unfold rvT at h2
  have hfull : wo s = cond (((yi 46 s).length : Int) == 1) (s ++ [46, 48, 46, 48]) (s ++ [46, 48]) := rfl
  generalize wo s = f at *
  generalize (zA f).2 = ok at *
  generalize (zA f).1 = v at *
  generalize vi v (((yi 46 s).length : Int) - 1) = bl at *
  obtain ⟨bt, bo⟩ := bl
  generalize B2 ((yi 46 s).length : Int) 1 2 = b2 at *
  generalize yi 46 s = ps at *
  simp only [Ver.enc, List.map_cons, List.map_nil] at h2 h5 ⊢
  cases h46 : ((ps.length : Int) == 1) <;> rw [h46] at hfull <;> simp only [cond_true, cond_false] at hfull <;> subst hfull <;>
    cases ok <;> cases b2 <;> cases hpre : (v.pre == []) <;> rw [hpre] at hg <;> simp only [Bool.not_true, Bool.not_false, Bool.or_true, Bool.or_false, Bool.true_or, Bool.false_or, cond_true, cond_false, bT] at hg ⊢
  all_goals simp only [true_implies, false_implies, reduceCtorEq] at h5
  all_goals cases bo
  all_goals try simp only [cond_true, cond_false]
  all_goals
    apply zu
    refine zw rfl Tryz.func112 rfl (by kernel_rfl) ?_
    unfold Tryz.f112
    simp (disch := ((try simp only [LL]); omega)) only [↓GO, ↓DRW, GA, ren, zB, zf, refs, zb, cst, zl, zH, z7, E.load, E.store, zG, isC, bin, zI, zJ, una, z8, za, zh, zK, blt, fnV, asArg, zd, zn, zo, zj, zi, zg, zk, zr, z6, zD, zF, mkS, zc, unN, zM, zm, zy, zC, ze, zN, zq, GS, Int.reduceToNat, Nat.reduceGT, ↓reduceIte, Nat.reduceAdd, Nat.reduceMul, Nat.reduceSub, Nat.reduceEqDiff, Nat.reduceLeDiff, Nat.reduceLT, Nat.reduceBEq, Int.reduceBEq, Int.reduceBNe, Int.reduceEq, Int.reduceLT, Int.reduceLE, Int.reduceGT, Int.reduceNeg, reduceCtorEq, GZ, h1, h2, h3, h46, hg, h5, zR, zx, wc]
end Go.Proofs.YtmcephnfcciloaaGreatDoor
/- Ranges, by the reference: signs, parts. Conditions: those of each lemma. -/
namespace Go.Proofs.YtmcephnfcciloaaGreatDoor
open E
set_option linter.unusedSimpArgs false
set_option linter.unusedVariables false
set_option maxRecDepth 100000
theorem VE (b : Bd) : xk [b] = (isE b.1 && isE b.2) := by
  unfold xk
  simp [B2]
/-- the head of a word -/
theorem qO (x : Str) : (ltW x = false ∧ decide ((x.length : Int) > 1) = false) ∨ (∃ a r, x = a :: r ∧ decide ((x.length : Int) > 1) = true ∧ ltW x = (a == 60)) := by
  unfold ltW
  cases h : decide ((x.length : Int) > 1) with
  | false => left; simp
  | true =>
    right
    cases x with
    | nil => simp at h
    | cons a r => exact ⟨a, r, rfl, rfl, by simp [hdB]⟩
theorem kb (x : Str) : (geW x = false ∧ decide ((x.length : Int) > 2) = false) ∨ (decide ((x.length : Int) > 2) = true ∧ geW x = (x.take 2 == [62, 61])) := by
  unfold geW
  cases h : decide ((x.length : Int) > 2) with
  | false => left; simp
  | true => right; simp
theorem l_sg1 (x : Str) : EV Tryz.prog pol (.loop 111 122 0 [.ptr 0 0 0, .t (.list 1 [[.str x]]), .ptr 1 0 0, .t (.int .i64 0)] [.vs 2 [[.t (.str []), .t (.str [])]], .vs 2 [[.t (.str []), .t (.str [])]]])
    = some (cond (geW x) (.loop (.exit 0) [.ptr 0 0 0, .bad, .t (.list 1 [[.str x]]), .ptr 1 0 0] [.vs 2 [[.t (.str []), .t (.str [])]], .vs 2 [[.t (.str (x.drop 2)), .t (.str [])]]])
      (cond (ltW x) (.loop (.exit 0) [.ptr 0 0 0, .bad, .t (.list 1 [[.str x]]), .ptr 1 0 0] [.vs 2 [[.t (.str []), .t (.str [])]], .vs 2 [[.t (.str []), .t (.str (x.drop 1))]]])
        (.loop .ret [.ptr 0 0 0, .t (.bool false), .t (.list 1 [[.str x]]), .ptr 1 0 0] [.vs 2 [[.t (.str []), .t (.str [])]], .vs 2 [[.t (.str []), .t (.str [])]]]))) := by
  have E1 : ∀ lo' hi' : Str, EV Tryz.prog pol (.loop 111 122 0 [.ptr 0 0 0, .t (.list 1 [[.str x]]), .ptr 1 0 0, .t (.int .i64 1)] [.vs 2 [[.t (.str []), .t (.str [])]], .vs 2 [[.t (.str lo'), .t (.str hi')]]]) = some (.loop (.exit 0) [.ptr 0 0 0, .bad, .t (.list 1 [[.str x]]), .ptr 1 0 0] [.vs 2 [[.t (.str []), .t (.str [])]], .vs 2 [[.t (.str lo'), .t (.str hi')]]]) := fun lo' hi' => by
    refine zz Tryz.func111 rfl rfl ?_
    simp (disch := ((try simp only [LL]); omega)) only [↓GO, ↓DRW, GA, ren, zB, zf, refs, zb, cst, zl, zH, z7, E.load, E.store, zG, isC, bin, zI, zJ, una, z8, za, zh, zK, blt, fnV, asArg, zd, zn, zo, zj, zi, zg, zk, zr, z6, zD, zF, mkS, zc, unN, zM, zm, zy, zC, ze, zN, zq, GS, Int.reduceToNat, Nat.reduceGT, ↓reduceIte, Nat.reduceAdd, Nat.reduceMul, Nat.reduceSub, Nat.reduceEqDiff, Nat.reduceLeDiff, Nat.reduceLT, Nat.reduceBEq, Int.reduceBEq, Int.reduceBNe, Int.reduceEq, Int.reduceLT, Int.reduceLE, Int.reduceGT, Int.reduceNeg, reduceCtorEq, GZ, zY]
  rcases kb x with ⟨hg, g1⟩ | ⟨g1, hg⟩
  · rw [hg]
    rcases qO x with ⟨hl, g3⟩ | ⟨a, r, hx, g3, hl⟩
    · rw [hl]
      simp only [cond_false]
      refine zz Tryz.func111 rfl rfl ?_
      simp (disch := ((try simp only [LL]); omega)) only [↓GO, ↓DRW, GA, ren, zB, zf, refs, zb, cst, zl, zH, z7, E.load, E.store, zG, isC, bin, zI, zJ, una, z8, za, zh, zK, blt, fnV, asArg, zd, zn, zo, zj, zi, zg, zk, zr, z6, zD, zF, mkS, zc, unN, zM, zm, zy, zC, ze, zN, zq, GS, Int.reduceToNat, Nat.reduceGT, ↓reduceIte, Nat.reduceAdd, Nat.reduceMul, Nat.reduceSub, Nat.reduceEqDiff, Nat.reduceLeDiff, Nat.reduceLT, Nat.reduceBEq, Int.reduceBEq, Int.reduceBNe, Int.reduceEq, Int.reduceLT, Int.reduceLE, Int.reduceGT, Int.reduceNeg, reduceCtorEq, GZ, g1, g3, zY, Int.reduceAdd, Int.reduceSub, zx]
    · rw [hl]
      have h0 : x[0]? = some a := by rw [hx]; rfl
      have h60 := mM a 60
      rw [show (((60 : UInt8).toNat : Nat) : Int) = 60 from rfl] at h60
      have hxl : 1 ≤ x.length := by rw [hx]; simp
      clear hx hl
      simp only [cond_false]
      cases hh : (a == 60) <;> rw [hh] at h60 <;> simp only [cond_true, cond_false]
      all_goals
        refine zz Tryz.func111 rfl rfl ?_
        simp (disch := ((try simp only [LL]); omega)) only [↓GO, ↓DRW, GA, ren, zB, zf, refs, zb, cst, zl, zH, z7, E.load, E.store, zG, isC, bin, zI, zJ, una, z8, za, zh, zK, blt, fnV, asArg, zd, zn, zo, zj, zi, zg, zk, zr, z6, zD, zF, mkS, zc, unN, zM, zm, zy, zC, ze, zN, zq, GS, Int.reduceToNat, Nat.reduceGT, ↓reduceIte, Nat.reduceAdd, Nat.reduceMul, Nat.reduceSub, Nat.reduceEqDiff, Nat.reduceLeDiff, Nat.reduceLT, Nat.reduceBEq, Int.reduceBEq, Int.reduceBNe, Int.reduceEq, Int.reduceLT, Int.reduceLE, Int.reduceGT, Int.reduceNeg, reduceCtorEq, GZ, g1, g3, h0, h60, E1, zY, Int.reduceAdd, Int.reduceSub, zx]
  · rw [hg]
    have h2 : 2 ≤ x.length := by have := of_decide_eq_true g1; omega
    cases ht : (x.take 2 == [62, 61]) with
    | true =>
      simp only [cond_true]
      refine zz Tryz.func111 rfl rfl ?_
      simp (disch := ((try simp only [LL]); omega)) only [↓GO, ↓DRW, GA, ren, zB, zf, refs, zb, cst, zl, zH, z7, E.load, E.store, zG, isC, bin, zI, zJ, una, z8, za, zh, zK, blt, fnV, asArg, zd, zn, zo, zj, zi, zg, zk, zr, z6, zD, zF, mkS, zc, unN, zM, zm, zy, zC, ze, zN, zq, GS, Int.reduceToNat, Nat.reduceGT, ↓reduceIte, Nat.reduceAdd, Nat.reduceMul, Nat.reduceSub, Nat.reduceEqDiff, Nat.reduceLeDiff, Nat.reduceLT, Nat.reduceBEq, Int.reduceBEq, Int.reduceBNe, Int.reduceEq, Int.reduceLT, Int.reduceLE, Int.reduceGT, Int.reduceNeg, reduceCtorEq, GZ, g1, ht, E1, zY, Int.reduceAdd, Int.reduceSub, zx]
    | false =>
      simp only [cond_false]
      rcases qO x with ⟨hl, g3⟩ | ⟨a, r, hx, g3, hl⟩
      · have := of_decide_eq_false g3; omega
      · rw [hl]
        have h0 : x[0]? = some a := by rw [hx]; rfl
        have h60 := mM a 60
        rw [show (((60 : UInt8).toNat : Nat) : Int) = 60 from rfl] at h60
        clear hx hl
        cases hh : (a == 60) <;> rw [hh] at h60 <;> simp only [cond_true, cond_false]
        all_goals
          refine zz Tryz.func111 rfl rfl ?_
          simp (disch := ((try simp only [LL]); omega)) only [↓GO, ↓DRW, GA, ren, zB, zf, refs, zb, cst, zl, zH, z7, E.load, E.store, zG, isC, bin, zI, zJ, una, z8, za, zh, zK, blt, fnV, asArg, zd, zn, zo, zj, zi, zg, zk, zr, z6, zD, zF, mkS, zc, unN, zM, zm, zy, zC, ze, zN, zq, GS, Int.reduceToNat, Nat.reduceGT, ↓reduceIte, Nat.reduceAdd, Nat.reduceMul, Nat.reduceSub, Nat.reduceEqDiff, Nat.reduceLeDiff, Nat.reduceLT, Nat.reduceBEq, Int.reduceBEq, Int.reduceBNe, Int.reduceEq, Int.reduceLT, Int.reduceLE, Int.reduceGT, Int.reduceNeg, reduceCtorEq, GZ, g1, g3, ht, h0, h60, E1, zY, Int.reduceAdd, Int.reduceSub, zx]
/-- the first round, where there are more words -/
theorem TX (x : Str) (ws : List (List T)) (n : Nat) (hn : n = ws.length) (h2 : 2 ≤ n) (hl : n ≤ 4194304) (h0 : ws[0]? = some [.str x]) (B : xN)
    (IH : geW x = true → EV Tryz.prog pol (.loop 111 122 0 [.ptr 0 0 0, .t (.list 1 ws), .ptr 1 0 0, .t (.int .i64 1)] [.vs 2 [[.t (.str []), .t (.str [])]], .vs 2 [[.t (.str (x.drop 2)), .t (.str [])]]]) = some B) :
    EV Tryz.prog pol (.loop 111 122 0 [.ptr 0 0 0, .t (.list 1 ws), .ptr 1 0 0, .t (.int .i64 0)] [.vs 2 [[.t (.str []), .t (.str [])]], .vs 2 [[.t (.str []), .t (.str [])]]])
    = some (cond (geW x) B (.loop .ret [.ptr 0 0 0, .t (.bool false), .t (.list 1 ws), .ptr 1 0 0] [.vs 2 [[.t (.str []), .t (.str [])]], .vs 2 [[.t (.str []), .t (.str [])]]])) := by
  have c0 : decide ((0 : Int) < (ws.length : Int)) = true := decide_eq_true (by omega)
  have c1 : ((0 : Int) == (ws.length : Int) - 1) = false := by rw [beq_eq_false_iff_ne]; omega
  have hg0 : uD ws 0 = some [.str x] := by rw [ue]; exact h0
  subst hn
  rcases kb x with ⟨hg, g1⟩ | ⟨g1, hg⟩
  · rw [hg]
    simp only [cond_false]
    refine zz Tryz.func111 rfl rfl ?_
    simp (disch := ((try simp only [LL]); omega)) only [↓GO, ↓DRW, GA, ren, zB, zf, refs, zb, cst, zl, zH, z7, E.load, E.store, zG, isC, bin, zI, zJ, una, z8, za, zh, zK, blt, fnV, asArg, zd, zn, zo, zj, zi, zg, zk, zr, z6, zD, zF, mkS, zc, unN, zM, zm, zy, zC, ze, zN, zq, GS, Int.reduceToNat, Nat.reduceGT, ↓reduceIte, Nat.reduceAdd, Nat.reduceMul, Nat.reduceSub, Nat.reduceEqDiff, Nat.reduceLeDiff, Nat.reduceLT, Nat.reduceBEq, Int.reduceBEq, Int.reduceBNe, Int.reduceEq, Int.reduceLT, Int.reduceLE, Int.reduceGT, Int.reduceNeg, reduceCtorEq, GZ, c0, c1, h0, hg0, g1, zY, zx]
  · rw [hg] at IH ⊢
    have hx2 : 2 ≤ x.length := by have := of_decide_eq_true g1; omega
    cases ht : (x.take 2 == [62, 61]) <;> rw [ht] at IH <;> simp only [cond_true, cond_false]
    · refine zz Tryz.func111 rfl rfl ?_
      simp (disch := ((try simp only [LL]); omega)) only [↓GO, ↓DRW, GA, ren, zB, zf, refs, zb, cst, zl, zH, z7, E.load, E.store, zG, isC, bin, zI, zJ, una, z8, za, zh, zK, blt, fnV, asArg, zd, zn, zo, zj, zi, zg, zk, zr, z6, zD, zF, mkS, zc, unN, zM, zm, zy, zC, ze, zN, zq, GS, Int.reduceToNat, Nat.reduceGT, ↓reduceIte, Nat.reduceAdd, Nat.reduceMul, Nat.reduceSub, Nat.reduceEqDiff, Nat.reduceLeDiff, Nat.reduceLT, Nat.reduceBEq, Int.reduceBEq, Int.reduceBNe, Int.reduceEq, Int.reduceLT, Int.reduceLE, Int.reduceGT, Int.reduceNeg, reduceCtorEq, GZ, c0, c1, h0, hg0, g1, ht, zY, zx]
    · have IH := IH rfl
      refine zz Tryz.func111 rfl rfl ?_
      simp (disch := ((try simp only [LL]); omega)) only [↓GO, ↓DRW, GA, ren, zB, zf, refs, zb, cst, zl, zH, z7, E.load, E.store, zG, isC, bin, zI, zJ, una, z8, za, zh, zK, blt, fnV, asArg, zd, zn, zo, zj, zi, zg, zk, zr, z6, zD, zF, mkS, zc, unN, zM, zm, zy, zC, ze, zN, zq, GS, Int.reduceToNat, Nat.reduceGT, ↓reduceIte, Nat.reduceAdd, Nat.reduceMul, Nat.reduceSub, Nat.reduceEqDiff, Nat.reduceLeDiff, Nat.reduceLT, Nat.reduceBEq, Int.reduceBEq, Int.reduceBNe, Int.reduceEq, Int.reduceLT, Int.reduceLE, Int.reduceGT, Int.reduceNeg, reduceCtorEq, GZ, c0, c1, h0, hg0, g1, ht, IH, zY, zx, Int.reduceAdd]
theorem l_sg2 (x y lo : Str) : EV Tryz.prog pol (.loop 111 122 0 [.ptr 0 0 0, .t (.list 1 [[.str x], [.str y]]), .ptr 1 0 0, .t (.int .i64 1)] [.vs 2 [[.t (.str []), .t (.str [])]], .vs 2 [[.t (.str lo), .t (.str [])]]])
    = some (cond (ltW y) (.loop (.exit 0) [.ptr 0 0 0, .bad, .t (.list 1 [[.str x], [.str y]]), .ptr 1 0 0] [.vs 2 [[.t (.str []), .t (.str [])]], .vs 2 [[.t (.str lo), .t (.str (y.drop 1))]]])
        (.loop .ret [.ptr 0 0 0, .t (.bool false), .t (.list 1 [[.str x], [.str y]]), .ptr 1 0 0] [.vs 2 [[.t (.str []), .t (.str [])]], .vs 2 [[.t (.str lo), .t (.str [])]]])) := by
  have E1 : ∀ lo' hi' : Str, EV Tryz.prog pol (.loop 111 122 0 [.ptr 0 0 0, .t (.list 1 [[.str x], [.str y]]), .ptr 1 0 0, .t (.int .i64 2)] [.vs 2 [[.t (.str []), .t (.str [])]], .vs 2 [[.t (.str lo'), .t (.str hi')]]]) = some (.loop (.exit 0) [.ptr 0 0 0, .bad, .t (.list 1 [[.str x], [.str y]]), .ptr 1 0 0] [.vs 2 [[.t (.str []), .t (.str [])]], .vs 2 [[.t (.str lo'), .t (.str hi')]]]) := fun lo' hi' => by
    refine zz Tryz.func111 rfl rfl ?_
    simp (disch := ((try simp only [LL]); omega)) only [↓GO, ↓DRW, GA, ren, zB, zf, refs, zb, cst, zl, zH, z7, E.load, E.store, zG, isC, bin, zI, zJ, una, z8, za, zh, zK, blt, fnV, asArg, zd, zn, zo, zj, zi, zg, zk, zr, z6, zD, zF, mkS, zc, unN, zM, zm, zy, zC, ze, zN, zq, GS, Int.reduceToNat, Nat.reduceGT, ↓reduceIte, Nat.reduceAdd, Nat.reduceMul, Nat.reduceSub, Nat.reduceEqDiff, Nat.reduceLeDiff, Nat.reduceLT, Nat.reduceBEq, Int.reduceBEq, Int.reduceBNe, Int.reduceEq, Int.reduceLT, Int.reduceLE, Int.reduceGT, Int.reduceNeg, reduceCtorEq, GZ, zY]
  rcases qO y with ⟨hl, g3⟩ | ⟨a, r, hx, g3, hl⟩
  · rw [hl]
    simp only [cond_false]
    refine zz Tryz.func111 rfl rfl ?_
    simp (disch := ((try simp only [LL]); omega)) only [↓GO, ↓DRW, GA, ren, zB, zf, refs, zb, cst, zl, zH, z7, E.load, E.store, zG, isC, bin, zI, zJ, una, z8, za, zh, zK, blt, fnV, asArg, zd, zn, zo, zj, zi, zg, zk, zr, z6, zD, zF, mkS, zc, unN, zM, zm, zy, zC, ze, zN, zq, GS, Int.reduceToNat, Nat.reduceGT, ↓reduceIte, Nat.reduceAdd, Nat.reduceMul, Nat.reduceSub, Nat.reduceEqDiff, Nat.reduceLeDiff, Nat.reduceLT, Nat.reduceBEq, Int.reduceBEq, Int.reduceBNe, Int.reduceEq, Int.reduceLT, Int.reduceLE, Int.reduceGT, Int.reduceNeg, reduceCtorEq, GZ, g3, zY, Int.reduceAdd, Int.reduceSub, zx]
  · rw [hl]
    have h0 : y[0]? = some a := by rw [hx]; rfl
    have h60 := mM a 60
    rw [show (((60 : UInt8).toNat : Nat) : Int) = 60 from rfl] at h60
    have hxl : 1 ≤ y.length := by rw [hx]; simp
    clear hx hl
    cases hh : (a == 60) <;> rw [hh] at h60 <;> simp only [cond_true, cond_false]
    all_goals
      refine zz Tryz.func111 rfl rfl ?_
      simp (disch := ((try simp only [LL]); omega)) only [↓GO, ↓DRW, GA, ren, zB, zf, refs, zb, cst, zl, zH, z7, E.load, E.store, zG, isC, bin, zI, zJ, una, z8, za, zh, zK, blt, fnV, asArg, zd, zn, zo, zj, zi, zg, zk, zr, z6, zD, zF, mkS, zc, unN, zM, zm, zy, zC, ze, zN, zq, GS, Int.reduceToNat, Nat.reduceGT, ↓reduceIte, Nat.reduceAdd, Nat.reduceMul, Nat.reduceSub, Nat.reduceEqDiff, Nat.reduceLeDiff, Nat.reduceLT, Nat.reduceBEq, Int.reduceBEq, Int.reduceBNe, Int.reduceEq, Int.reduceLT, Int.reduceLE, Int.reduceGT, Int.reduceNeg, reduceCtorEq, GZ, g3, h0, h60, E1, zY, Int.reduceAdd, Int.reduceSub, zx]
theorem l_sg3 (x y lo : Str) (ws : List (List T)) (n : Nat) (hn : n = ws.length) (h2 : 3 ≤ n) (hl : n ≤ 4194304) : EV Tryz.prog pol (.loop 111 122 0 [.ptr 0 0 0, .t (.list 1 ws), .ptr 1 0 0, .t (.int .i64 1)] [.vs 2 [[.t (.str []), .t (.str [])]], .vs 2 [[.t (.str lo), .t (.str [])]]])
    = some (.loop .ret [.ptr 0 0 0, .t (.bool false), .t (.list 1 ws), .ptr 1 0 0] [.vs 2 [[.t (.str []), .t (.str [])]], .vs 2 [[.t (.str lo), .t (.str [])]]]) := by
  have c0 : decide ((1 : Int) < (ws.length : Int)) = true := decide_eq_true (by omega)
  have c1 : ((1 : Int) == (ws.length : Int) - 1) = false := by rw [beq_eq_false_iff_ne]; omega
  subst hn
  refine zz Tryz.func111 rfl rfl ?_
  simp (disch := ((try simp only [LL]); omega)) only [↓GO, ↓DRW, GA, ren, zB, zf, refs, zb, cst, zl, zH, z7, E.load, E.store, zG, isC, bin, zI, zJ, una, z8, za, zh, zK, blt, fnV, asArg, zd, zn, zo, zj, zi, zg, zk, zr, z6, zD, zF, mkS, zc, unN, zM, zm, zy, zC, ze, zN, zq, GS, Int.reduceToNat, Nat.reduceGT, ↓reduceIte, Nat.reduceAdd, Nat.reduceMul, Nat.reduceSub, Nat.reduceEqDiff, Nat.reduceLeDiff, Nat.reduceLT, Nat.reduceBEq, Int.reduceBEq, Int.reduceBNe, Int.reduceEq, Int.reduceLT, Int.reduceLE, Int.reduceGT, Int.reduceNeg, reduceCtorEq, GZ, c0, c1, zY, zx]
theorem XC (s : Str) (hl : s.length ≤ 1048600) : zE (EV Tryz.prog pol) 111 [.t (.str s)] = some (bT (u5 s)) := by
  have h1 := Th s (by omega)
  have hbk := xI 32 s
  unfold u5
  match hp : yi 32 s with
  | [] => exact absurd hp (yU 32 s)
  | [x] =>
    rw [hp] at h1 hbk
    simp only [yk, List.length_cons, List.length_nil] at hbk
    have L := l_sg1 x
    have hd2 : (x.drop 2).length ≤ x.length := by rw [List.length_drop]; omega
    have hd1 : (x.drop 1).length ≤ x.length := by rw [List.length_drop]; omega
    have r1 := jR [(x.drop 2, [])] (by simp) (by simp; omega)
    have r2 := jR [([], x.drop 1)] (by simp) (by simp; omega)
    rw [VE] at r1 r2
    simp only [bdT, List.map_cons, List.map_nil, xj, yf] at r1 r2 h1 ⊢
    generalize (isE (x.drop 2) && isE []) = k1 at *
    generalize (isE [] && isE (x.drop 1)) = k2 at *
    cases hg : geW x <;> rw [hg] at L <;> simp only [cond_true, cond_false] at L ⊢
    · cases hq : ltW x <;> rw [hq] at L <;> simp only [cond_true, cond_false] at L ⊢
      · simp only [bT]
        apply zu
        refine zw rfl Tryz.func111 rfl (by kernel_rfl) ?_
        unfold Tryz.f111
        simp (disch := ((try simp only [LL]); omega)) only [↓GO, ↓DRW, GA, ren, zB, zf, refs, zb, cst, zl, zH, z7, E.load, E.store, zG, isC, bin, zI, zJ, una, z8, za, zh, zK, blt, fnV, asArg, zd, zn, zo, zj, zi, zg, zk, zr, z6, zD, zF, mkS, zc, unN, zM, zm, zy, zC, ze, zN, zq, GS, Int.reduceToNat, Nat.reduceGT, ↓reduceIte, Nat.reduceAdd, Nat.reduceMul, Nat.reduceSub, Nat.reduceEqDiff, Nat.reduceLeDiff, Nat.reduceLT, Nat.reduceBEq, Int.reduceBEq, Int.reduceBNe, Int.reduceEq, Int.reduceLT, Int.reduceLE, Int.reduceGT, Int.reduceNeg, reduceCtorEq, GZ, h1, L, zY]
      · cases k2 <;> simp only [cond_true, cond_false, bT]
        all_goals
          apply zu
          refine zw rfl Tryz.func111 rfl (by kernel_rfl) ?_
          unfold Tryz.f111
          simp (disch := ((try simp only [LL]); omega)) only [↓GO, ↓DRW, GA, ren, zB, zf, refs, zb, cst, zl, zH, z7, E.load, E.store, zG, isC, bin, zI, zJ, una, z8, za, zh, zK, blt, fnV, asArg, zd, zn, zo, zj, zi, zg, zk, zr, z6, zD, zF, mkS, zc, unN, zM, zm, zy, zC, ze, zN, zq, GS, Int.reduceToNat, Nat.reduceGT, ↓reduceIte, Nat.reduceAdd, Nat.reduceMul, Nat.reduceSub, Nat.reduceEqDiff, Nat.reduceLeDiff, Nat.reduceLT, Nat.reduceBEq, Int.reduceBEq, Int.reduceBNe, Int.reduceEq, Int.reduceLT, Int.reduceLE, Int.reduceGT, Int.reduceNeg, reduceCtorEq, GZ, h1, L, r2, zY]
    · cases k1 <;> simp only [cond_true, cond_false, bT]
      all_goals
        apply zu
        refine zw rfl Tryz.func111 rfl (by kernel_rfl) ?_
        unfold Tryz.f111
        simp (disch := ((try simp only [LL]); omega)) only [↓GO, ↓DRW, GA, ren, zB, zf, refs, zb, cst, zl, zH, z7, E.load, E.store, zG, isC, bin, zI, zJ, una, z8, za, zh, zK, blt, fnV, asArg, zd, zn, zo, zj, zi, zg, zk, zr, z6, zD, zF, mkS, zc, unN, zM, zm, zy, zC, ze, zN, zq, GS, Int.reduceToNat, Nat.reduceGT, ↓reduceIte, Nat.reduceAdd, Nat.reduceMul, Nat.reduceSub, Nat.reduceEqDiff, Nat.reduceLeDiff, Nat.reduceLT, Nat.reduceBEq, Int.reduceBEq, Int.reduceBNe, Int.reduceEq, Int.reduceLT, Int.reduceLE, Int.reduceGT, Int.reduceNeg, reduceCtorEq, GZ, h1, L, r1, zY]
  | [x, y] =>
    rw [hp] at h1 hbk
    simp only [yk, List.length_cons, List.length_nil] at hbk
    have L2 := l_sg2 x y (x.drop 2)
    have L := TX x [[.str x], [.str y]] 2 rfl (by omega) (by omega) rfl _ (fun _ => L2)
    have hd2 : (x.drop 2).length ≤ x.length := by rw [List.length_drop]; omega
    have hd1 : (y.drop 1).length ≤ y.length := by rw [List.length_drop]; omega
    have r1 := jR [(x.drop 2, y.drop 1)] (by simp) (by simp; omega)
    rw [VE] at r1
    simp only [bdT, List.map_cons, List.map_nil, xj, yf] at r1 h1 ⊢
    generalize (isE (x.drop 2) && isE (y.drop 1)) = k1 at *
    clear L2
    cases hg : geW x <;> rw [hg] at L <;> simp only [cond_true, cond_false] at L ⊢
    · simp only [bT]
      apply zu
      refine zw rfl Tryz.func111 rfl (by kernel_rfl) ?_
      unfold Tryz.f111
      simp (disch := ((try simp only [LL]); omega)) only [↓GO, ↓DRW, GA, ren, zB, zf, refs, zb, cst, zl, zH, z7, E.load, E.store, zG, isC, bin, zI, zJ, una, z8, za, zh, zK, blt, fnV, asArg, zd, zn, zo, zj, zi, zg, zk, zr, z6, zD, zF, mkS, zc, unN, zM, zm, zy, zC, ze, zN, zq, GS, Int.reduceToNat, Nat.reduceGT, ↓reduceIte, Nat.reduceAdd, Nat.reduceMul, Nat.reduceSub, Nat.reduceEqDiff, Nat.reduceLeDiff, Nat.reduceLT, Nat.reduceBEq, Int.reduceBEq, Int.reduceBNe, Int.reduceEq, Int.reduceLT, Int.reduceLE, Int.reduceGT, Int.reduceNeg, reduceCtorEq, GZ, h1, L, zY]
    · cases hq : ltW y <;> rw [hq] at L <;> simp only [cond_true, cond_false] at L ⊢
      · simp only [bT]
        apply zu
        refine zw rfl Tryz.func111 rfl (by kernel_rfl) ?_
        unfold Tryz.f111
        simp (disch := ((try simp only [LL]); omega)) only [↓GO, ↓DRW, GA, ren, zB, zf, refs, zb, cst, zl, zH, z7, E.load, E.store, zG, isC, bin, zI, zJ, una, z8, za, zh, zK, blt, fnV, asArg, zd, zn, zo, zj, zi, zg, zk, zr, z6, zD, zF, mkS, zc, unN, zM, zm, zy, zC, ze, zN, zq, GS, Int.reduceToNat, Nat.reduceGT, ↓reduceIte, Nat.reduceAdd, Nat.reduceMul, Nat.reduceSub, Nat.reduceEqDiff, Nat.reduceLeDiff, Nat.reduceLT, Nat.reduceBEq, Int.reduceBEq, Int.reduceBNe, Int.reduceEq, Int.reduceLT, Int.reduceLE, Int.reduceGT, Int.reduceNeg, reduceCtorEq, GZ, h1, L, zY]
      · cases k1 <;> simp only [cond_true, cond_false, bT]
        all_goals
          apply zu
          refine zw rfl Tryz.func111 rfl (by kernel_rfl) ?_
          unfold Tryz.f111
          simp (disch := ((try simp only [LL]); omega)) only [↓GO, ↓DRW, GA, ren, zB, zf, refs, zb, cst, zl, zH, z7, E.load, E.store, zG, isC, bin, zI, zJ, una, z8, za, zh, zK, blt, fnV, asArg, zd, zn, zo, zj, zi, zg, zk, zr, z6, zD, zF, mkS, zc, unN, zM, zm, zy, zC, ze, zN, zq, GS, Int.reduceToNat, Nat.reduceGT, ↓reduceIte, Nat.reduceAdd, Nat.reduceMul, Nat.reduceSub, Nat.reduceEqDiff, Nat.reduceLeDiff, Nat.reduceLT, Nat.reduceBEq, Int.reduceBEq, Int.reduceBNe, Int.reduceEq, Int.reduceLT, Int.reduceLE, Int.reduceGT, Int.reduceNeg, reduceCtorEq, GZ, h1, L, r1, zY]
  | x :: y :: z :: r =>
    rw [hp] at h1 hbk
    have hn : (y6 (x :: y :: z :: r)).length = r.length + 3 := by rw [zR]; simp
    have hb3 : r.length + 3 ≤ 4194304 := by simp only [List.length_cons] at hbk; omega
    have L := TX x (y6 (x :: y :: z :: r)) _ rfl (by omega) (by omega) rfl _ (fun _ => l_sg3 x y (x.drop 2) (y6 (x :: y :: z :: r)) _ rfl (by omega) (by omega))
    simp only [bT]
    generalize y6 (x :: y :: z :: r) = ws at *
    cases hg : geW x <;> rw [hg] at L <;> simp only [cond_true, cond_false] at L
    all_goals
      apply zu
      refine zw rfl Tryz.func111 rfl (by kernel_rfl) ?_
      unfold Tryz.f111
      simp (disch := ((try simp only [LL]); omega)) only [↓GO, ↓DRW, GA, ren, zB, zf, refs, zb, cst, zl, zH, z7, E.load, E.store, zG, isC, bin, zI, zJ, una, z8, za, zh, zK, blt, fnV, asArg, zd, zn, zo, zj, zi, zg, zk, zr, z6, zD, zF, mkS, zc, unN, zM, zm, zy, zC, ze, zN, zq, GS, Int.reduceToNat, Nat.reduceGT, ↓reduceIte, Nat.reduceAdd, Nat.reduceMul, Nat.reduceSub, Nat.reduceEqDiff, Nat.reduceLeDiff, Nat.reduceLT, Nat.reduceBEq, Int.reduceBEq, Int.reduceBNe, Int.reduceEq, Int.reduceLT, Int.reduceLE, Int.reduceGT, Int.reduceNeg, reduceCtorEq, GZ, h1, L, zY]
end Go.Proofs.YtmcephnfcciloaaGreatDoor
/- Ranges, by the reference: the whole. Conditions: those of each lemma. -/
namespace Go.Proofs.YtmcephnfcciloaaGreatDoor
open E
set_option linter.unusedSimpArgs false
set_option linter.unusedVariables false
set_option maxRecDepth 100000
set_option maxHeartbeats 4000000 in
theorem Tn (s : Str) (hl : s.length ≤ 1048576) : zE (EV Tryz.prog pol) 86 [.t (.str s)] = some (bT (xJ s)) := by
  have hs := XC s (by omega)
  have ha := eo s (by omega)
  rw [SX] at ha
  have hsh := XD s (by omega)
  have hd1 : (s.drop 1).length ≤ s.length := by rw [List.length_drop]; omega
  have hrv := oo (s.drop 1) (by omega)
  obtain ⟨m1, m2, m3, m4, m5, m6, m7⟩ := yW (s.drop 1) (by omega)
  have hf1 := U8 (s.drop 1) (zA (s.drop 1)).1 1 m1 (by omega) ⟨m3, m2⟩ ⟨m5, m4⟩ ⟨m7, m6⟩
  have hf2 := U8 (s.drop 1) (zA (s.drop 1)).1 (vN (zA (s.drop 1)).1) m1 (Zw _) ⟨m3, m2⟩ ⟨m5, m4⟩ ⟨m7, m6⟩
  have hc := XO (zA (s.drop 1)).1
  unfold rvT at hrv
  rw [show (zA (s.drop 1)).2 = isV (s.drop 1) from rfl] at hrv
  unfold xJ
  generalize u5 s = sg at *
  generalize x6 s = ex at *
  generalize wK s = sh at *
  generalize isV (s.drop 1) = iv at *
  generalize vN (zA (s.drop 1)).1 = cr at *
  generalize hfd : mN (zA (s.drop 1)).1 (s.drop 1) 1 = f1 at *
  generalize hfc : mN (zA (s.drop 1)).1 (s.drop 1) cr = f2 at *
  generalize (zA (s.drop 1)).1 = v at *
  simp only [Ver.enc, List.map_cons, List.map_nil] at hrv hf1 hf2 hc
  cases h42 : (s == [42]) with
  | true =>
    simp only [cond_true, bT]
    apply zu
    refine zw rfl Tryz.func86 rfl (by kernel_rfl) ?_
    unfold Tryz.f86
    simp (disch := ((try simp only [LL]); omega)) only [↓GO, ↓DRW, GA, ren, zB, zf, refs, zb, cst, zl, zH, z7, E.load, E.store, zG, isC, bin, zI, zJ, una, z8, za, zh, zK, blt, fnV, asArg, zd, zn, zo, zj, zi, zg, zk, zr, z6, zD, zF, mkS, zc, unN, zM, zm, zy, zC, ze, zN, zq, GS, Int.reduceToNat, Nat.reduceGT, ↓reduceIte, Nat.reduceAdd, Nat.reduceMul, Nat.reduceSub, Nat.reduceEqDiff, Nat.reduceLeDiff, Nat.reduceLT, Nat.reduceBEq, Int.reduceBEq, Int.reduceBNe, Int.reduceEq, Int.reduceLT, Int.reduceLE, Int.reduceGT, Int.reduceNeg, reduceCtorEq, GZ, h42]
  | false =>
    simp only [cond_false]
    match s with
    | [] =>
      have z1 : decide ((([] : Str).length : Int) > 1) = false := rfl
      have z0 : decide ((([] : Str).length : Int) > 0) = false := rfl
      rw [z1, z0]
      simp only [Bool.false_and, cond_false]
      cases ex <;> cases sh <;> simp only [bT] at ha hsh ⊢
      all_goals
        apply zu
        refine zw rfl Tryz.func86 rfl (by kernel_rfl) ?_
        unfold Tryz.f86
        simp (disch := ((try simp only [LL]); omega)) only [↓GO, ↓DRW, GA, ren, zB, zf, refs, zb, cst, zl, zH, z7, E.load, E.store, zG, isC, bin, zI, zJ, una, z8, za, zh, zK, blt, fnV, asArg, zd, zn, zo, zj, zi, zg, zk, zr, z6, zD, zF, mkS, zc, unN, zM, zm, zy, zC, ze, zN, zq, GS, Int.reduceToNat, Nat.reduceGT, ↓reduceIte, Nat.reduceAdd, Nat.reduceMul, Nat.reduceSub, Nat.reduceEqDiff, Nat.reduceLeDiff, Nat.reduceLT, Nat.reduceBEq, Int.reduceBEq, Int.reduceBNe, Int.reduceEq, Int.reduceLT, Int.reduceLE, Int.reduceGT, Int.reduceNeg, reduceCtorEq, GZ, h42, z1, z0, ha, hsh]
    | x :: r =>
      have z0 : decide (((x :: r).length : Int) > 0) = true := by apply decide_eq_true; simp only [List.length_cons]; omega
      have h0 : (x :: r)[0]? = some x := rfl
      have h94 := mM x 94
      have h126 := mM x 126
      have h62 := mM x 62
      have h60 := mM x 60
      rw [show (((94 : UInt8).toNat : Nat) : Int) = 94 from rfl] at h94
      rw [show (((126 : UInt8).toNat : Nat) : Int) = 126 from rfl] at h126
      rw [show (((62 : UInt8).toNat : Nat) : Int) = 62 from rfl] at h62
      rw [show (((60 : UInt8).toNat : Nat) : Int) = 60 from rfl] at h60
      have hx1 : 1 ≤ (x :: r).length := by simp
      simp only [hdB]
      rw [z0]
      generalize x :: r = xs at *
      cases z1 : decide ((xs.length : Int) > 1)
      · simp only [Bool.true_and, Bool.false_and, Bool.or_true, Bool.or_false, Bool.true_or, Bool.false_or, cond_true, cond_false, hfc, hfd]
        cases e62 : (x == 62) <;> rw [e62] at h62
        · cases e60 : (x == 60) <;> rw [e60] at h60 <;> simp only [Bool.true_and, Bool.false_and, Bool.or_true, Bool.or_false, Bool.true_or, Bool.false_or, cond_true, cond_false, hfc, hfd]
          · cases ex <;> cases sh <;> simp only [bT] at ha hsh ⊢
            all_goals
              apply zu
              refine zw rfl Tryz.func86 rfl (by kernel_rfl) ?_
              unfold Tryz.f86
              simp (disch := ((try simp only [LL]); omega)) only [↓GO, ↓DRW, GA, ren, zB, zf, refs, zb, cst, zl, zH, z7, E.load, E.store, zG, isC, bin, zI, zJ, una, z8, za, zh, zK, blt, fnV, asArg, zd, zn, zo, zj, zi, zg, zk, zr, z6, zD, zF, mkS, zc, unN, zM, zm, zy, zC, ze, zN, zq, GS, Int.reduceToNat, Nat.reduceGT, ↓reduceIte, Nat.reduceAdd, Nat.reduceMul, Nat.reduceSub, Nat.reduceEqDiff, Nat.reduceLeDiff, Nat.reduceLT, Nat.reduceBEq, Int.reduceBEq, Int.reduceBNe, Int.reduceEq, Int.reduceLT, Int.reduceLE, Int.reduceGT, Int.reduceNeg, reduceCtorEq, GZ, h42, z1, z0, h0, h62, h60, ha, hsh, zY]
          · cases sg <;> simp only [bT] at hs ⊢
            all_goals
              apply zu
              refine zw rfl Tryz.func86 rfl (by kernel_rfl) ?_
              unfold Tryz.f86
              simp (disch := ((try simp only [LL]); omega)) only [↓GO, ↓DRW, GA, ren, zB, zf, refs, zb, cst, zl, zH, z7, E.load, E.store, zG, isC, bin, zI, zJ, una, z8, za, zh, zK, blt, fnV, asArg, zd, zn, zo, zj, zi, zg, zk, zr, z6, zD, zF, mkS, zc, unN, zM, zm, zy, zC, ze, zN, zq, GS, Int.reduceToNat, Nat.reduceGT, ↓reduceIte, Nat.reduceAdd, Nat.reduceMul, Nat.reduceSub, Nat.reduceEqDiff, Nat.reduceLeDiff, Nat.reduceLT, Nat.reduceBEq, Int.reduceBEq, Int.reduceBNe, Int.reduceEq, Int.reduceLT, Int.reduceLE, Int.reduceGT, Int.reduceNeg, reduceCtorEq, GZ, h42, z1, z0, h0, h62, h60, hs, zY]
        · simp only [Bool.true_and, Bool.false_and, Bool.or_true, Bool.or_false, Bool.true_or, Bool.false_or, cond_true, cond_false, hfc, hfd]
          cases sg <;> simp only [bT] at hs ⊢
          all_goals
            apply zu
            refine zw rfl Tryz.func86 rfl (by kernel_rfl) ?_
            unfold Tryz.f86
            simp (disch := ((try simp only [LL]); omega)) only [↓GO, ↓DRW, GA, ren, zB, zf, refs, zb, cst, zl, zH, z7, E.load, E.store, zG, isC, bin, zI, zJ, una, z8, za, zh, zK, blt, fnV, asArg, zd, zn, zo, zj, zi, zg, zk, zr, z6, zD, zF, mkS, zc, unN, zM, zm, zy, zC, ze, zN, zq, GS, Int.reduceToNat, Nat.reduceGT, ↓reduceIte, Nat.reduceAdd, Nat.reduceMul, Nat.reduceSub, Nat.reduceEqDiff, Nat.reduceLeDiff, Nat.reduceLT, Nat.reduceBEq, Int.reduceBEq, Int.reduceBNe, Int.reduceEq, Int.reduceLT, Int.reduceLE, Int.reduceGT, Int.reduceNeg, reduceCtorEq, GZ, h42, z1, z0, h0, h62, hs, zY]
      · cases e94 : (x == 94) <;> rw [e94] at h94
        · cases e126 : (x == 126) <;> rw [e126] at h126 <;> simp only [Bool.true_and, Bool.false_and, Bool.or_true, Bool.or_false, Bool.true_or, Bool.false_or, cond_true, cond_false, hfc, hfd]
          · cases e62 : (x == 62) <;> rw [e62] at h62
            · cases e60 : (x == 60) <;> rw [e60] at h60 <;> simp only [Bool.true_and, Bool.false_and, Bool.or_true, Bool.or_false, Bool.true_or, Bool.false_or, cond_true, cond_false, hfc, hfd]
              · cases ex <;> cases sh <;> simp only [bT] at ha hsh ⊢
                all_goals
                  apply zu
                  refine zw rfl Tryz.func86 rfl (by kernel_rfl) ?_
                  unfold Tryz.f86
                  simp (disch := ((try simp only [LL]); omega)) only [↓GO, ↓DRW, GA, ren, zB, zf, refs, zb, cst, zl, zH, z7, E.load, E.store, zG, isC, bin, zI, zJ, una, z8, za, zh, zK, blt, fnV, asArg, zd, zn, zo, zj, zi, zg, zk, zr, z6, zD, zF, mkS, zc, unN, zM, zm, zy, zC, ze, zN, zq, GS, Int.reduceToNat, Nat.reduceGT, ↓reduceIte, Nat.reduceAdd, Nat.reduceMul, Nat.reduceSub, Nat.reduceEqDiff, Nat.reduceLeDiff, Nat.reduceLT, Nat.reduceBEq, Int.reduceBEq, Int.reduceBNe, Int.reduceEq, Int.reduceLT, Int.reduceLE, Int.reduceGT, Int.reduceNeg, reduceCtorEq, GZ, h42, z1, z0, h0, h94, h126, h62, h60, ha, hsh, zY]
              · cases sg <;> simp only [bT] at hs ⊢
                all_goals
                  apply zu
                  refine zw rfl Tryz.func86 rfl (by kernel_rfl) ?_
                  unfold Tryz.f86
                  simp (disch := ((try simp only [LL]); omega)) only [↓GO, ↓DRW, GA, ren, zB, zf, refs, zb, cst, zl, zH, z7, E.load, E.store, zG, isC, bin, zI, zJ, una, z8, za, zh, zK, blt, fnV, asArg, zd, zn, zo, zj, zi, zg, zk, zr, z6, zD, zF, mkS, zc, unN, zM, zm, zy, zC, ze, zN, zq, GS, Int.reduceToNat, Nat.reduceGT, ↓reduceIte, Nat.reduceAdd, Nat.reduceMul, Nat.reduceSub, Nat.reduceEqDiff, Nat.reduceLeDiff, Nat.reduceLT, Nat.reduceBEq, Int.reduceBEq, Int.reduceBNe, Int.reduceEq, Int.reduceLT, Int.reduceLE, Int.reduceGT, Int.reduceNeg, reduceCtorEq, GZ, h42, z1, z0, h0, h94, h126, h62, h60, hs, zY]
            · simp only [Bool.true_and, Bool.false_and, Bool.or_true, Bool.or_false, Bool.true_or, Bool.false_or, cond_true, cond_false, hfc, hfd]
              cases sg <;> simp only [bT] at hs ⊢
              all_goals
                apply zu
                refine zw rfl Tryz.func86 rfl (by kernel_rfl) ?_
                unfold Tryz.f86
                simp (disch := ((try simp only [LL]); omega)) only [↓GO, ↓DRW, GA, ren, zB, zf, refs, zb, cst, zl, zH, z7, E.load, E.store, zG, isC, bin, zI, zJ, una, z8, za, zh, zK, blt, fnV, asArg, zd, zn, zo, zj, zi, zg, zk, zr, z6, zD, zF, mkS, zc, unN, zM, zm, zy, zC, ze, zN, zq, GS, Int.reduceToNat, Nat.reduceGT, ↓reduceIte, Nat.reduceAdd, Nat.reduceMul, Nat.reduceSub, Nat.reduceEqDiff, Nat.reduceLeDiff, Nat.reduceLT, Nat.reduceBEq, Int.reduceBEq, Int.reduceBNe, Int.reduceEq, Int.reduceLT, Int.reduceLE, Int.reduceGT, Int.reduceNeg, reduceCtorEq, GZ, h42, z1, z0, h0, h94, h126, h62, hs, zY]
          · cases iv <;> simp only [Bool.not_true, Bool.not_false, cond_true, cond_false, bT] at hrv ⊢
            · apply zu
              refine zw rfl Tryz.func86 rfl (by kernel_rfl) ?_
              unfold Tryz.f86
              simp (disch := ((try simp only [LL]); omega)) only [↓GO, ↓DRW, GA, ren, zB, zf, refs, zb, cst, zl, zH, z7, E.load, E.store, zG, isC, bin, zI, zJ, una, z8, za, zh, zK, blt, fnV, asArg, zd, zn, zo, zj, zi, zg, zk, zr, z6, zD, zF, mkS, zc, unN, zM, zm, zy, zC, ze, zN, zq, GS, Int.reduceToNat, Nat.reduceGT, ↓reduceIte, Nat.reduceAdd, Nat.reduceMul, Nat.reduceSub, Nat.reduceEqDiff, Nat.reduceLeDiff, Nat.reduceLT, Nat.reduceBEq, Int.reduceBEq, Int.reduceBNe, Int.reduceEq, Int.reduceLT, Int.reduceLE, Int.reduceGT, Int.reduceNeg, reduceCtorEq, GZ, h42, z1, z0, h0, h94, h126, hrv, hx1, zY]
            · cases f1 <;> simp only [bT] at hf1 ⊢
              all_goals
                apply zu
                refine zw rfl Tryz.func86 rfl (by kernel_rfl) ?_
                unfold Tryz.f86
                simp (disch := ((try simp only [LL]); omega)) only [↓GO, ↓DRW, GA, ren, zB, zf, refs, zb, cst, zl, zH, z7, E.load, E.store, zG, isC, bin, zI, zJ, una, z8, za, zh, zK, blt, fnV, asArg, zd, zn, zo, zj, zi, zg, zk, zr, z6, zD, zF, mkS, zc, unN, zM, zm, zy, zC, ze, zN, zq, GS, Int.reduceToNat, Nat.reduceGT, ↓reduceIte, Nat.reduceAdd, Nat.reduceMul, Nat.reduceSub, Nat.reduceEqDiff, Nat.reduceLeDiff, Nat.reduceLT, Nat.reduceBEq, Int.reduceBEq, Int.reduceBNe, Int.reduceEq, Int.reduceLT, Int.reduceLE, Int.reduceGT, Int.reduceNeg, reduceCtorEq, GZ, h42, z1, z0, h0, h94, h126, hrv, hf1, hx1, zY]
                refine yQ (by kernel_rfl) ?_
                rfl
        · cases e126 : (x == 126) <;> rw [e126] at h126 <;> simp only [Bool.true_and, Bool.false_and, Bool.or_true, Bool.or_false, Bool.true_or, Bool.false_or, cond_true, cond_false, hfc, hfd] <;> cases iv <;> simp only [Bool.not_true, Bool.not_false, cond_true, cond_false, bT] at hrv ⊢
          · apply zu
            refine zw rfl Tryz.func86 rfl (by kernel_rfl) ?_
            unfold Tryz.f86
            simp (disch := ((try simp only [LL]); omega)) only [↓GO, ↓DRW, GA, ren, zB, zf, refs, zb, cst, zl, zH, z7, E.load, E.store, zG, isC, bin, zI, zJ, una, z8, za, zh, zK, blt, fnV, asArg, zd, zn, zo, zj, zi, zg, zk, zr, z6, zD, zF, mkS, zc, unN, zM, zm, zy, zC, ze, zN, zq, GS, Int.reduceToNat, Nat.reduceGT, ↓reduceIte, Nat.reduceAdd, Nat.reduceMul, Nat.reduceSub, Nat.reduceEqDiff, Nat.reduceLeDiff, Nat.reduceLT, Nat.reduceBEq, Int.reduceBEq, Int.reduceBNe, Int.reduceEq, Int.reduceLT, Int.reduceLE, Int.reduceGT, Int.reduceNeg, reduceCtorEq, GZ, h42, z1, z0, h0, h94, h126, hrv, hx1, zY]
          · cases f2 <;> simp only [bT] at hf2 ⊢
            all_goals
              apply zu
              refine zw rfl Tryz.func86 rfl (by kernel_rfl) ?_
              unfold Tryz.f86
              simp (disch := ((try simp only [LL]); omega)) only [↓GO, ↓DRW, GA, ren, zB, zf, refs, zb, cst, zl, zH, z7, E.load, E.store, zG, isC, bin, zI, zJ, una, z8, za, zh, zK, blt, fnV, asArg, zd, zn, zo, zj, zi, zg, zk, zr, z6, zD, zF, mkS, zc, unN, zM, zm, zy, zC, ze, zN, zq, GS, Int.reduceToNat, Nat.reduceGT, ↓reduceIte, Nat.reduceAdd, Nat.reduceMul, Nat.reduceSub, Nat.reduceEqDiff, Nat.reduceLeDiff, Nat.reduceLT, Nat.reduceBEq, Int.reduceBEq, Int.reduceBNe, Int.reduceEq, Int.reduceLT, Int.reduceLE, Int.reduceGT, Int.reduceNeg, reduceCtorEq, GZ, h42, z1, z0, h0, h94, h126, hrv, hc, hf2, hx1, zY]
              refine yQ (by kernel_rfl) ?_
              rfl
          · apply zu
            refine zw rfl Tryz.func86 rfl (by kernel_rfl) ?_
            unfold Tryz.f86
            simp (disch := ((try simp only [LL]); omega)) only [↓GO, ↓DRW, GA, ren, zB, zf, refs, zb, cst, zl, zH, z7, E.load, E.store, zG, isC, bin, zI, zJ, una, z8, za, zh, zK, blt, fnV, asArg, zd, zn, zo, zj, zi, zg, zk, zr, z6, zD, zF, mkS, zc, unN, zM, zm, zy, zC, ze, zN, zq, GS, Int.reduceToNat, Nat.reduceGT, ↓reduceIte, Nat.reduceAdd, Nat.reduceMul, Nat.reduceSub, Nat.reduceEqDiff, Nat.reduceLeDiff, Nat.reduceLT, Nat.reduceBEq, Int.reduceBEq, Int.reduceBNe, Int.reduceEq, Int.reduceLT, Int.reduceLE, Int.reduceGT, Int.reduceNeg, reduceCtorEq, GZ, h42, z1, z0, h0, h94, h126, hrv, hx1, zY]
          · cases f1 <;> simp only [bT] at hf1 ⊢
            all_goals
              apply zu
              refine zw rfl Tryz.func86 rfl (by kernel_rfl) ?_
              unfold Tryz.f86
              simp (disch := ((try simp only [LL]); omega)) only [↓GO, ↓DRW, GA, ren, zB, zf, refs, zb, cst, zl, zH, z7, E.load, E.store, zG, isC, bin, zI, zJ, una, z8, za, zh, zK, blt, fnV, asArg, zd, zn, zo, zj, zi, zg, zk, zr, z6, zD, zF, mkS, zc, unN, zM, zm, zy, zC, ze, zN, zq, GS, Int.reduceToNat, Nat.reduceGT, ↓reduceIte, Nat.reduceAdd, Nat.reduceMul, Nat.reduceSub, Nat.reduceEqDiff, Nat.reduceLeDiff, Nat.reduceLT, Nat.reduceBEq, Int.reduceBEq, Int.reduceBNe, Int.reduceEq, Int.reduceLT, Int.reduceLE, Int.reduceGT, Int.reduceNeg, reduceCtorEq, GZ, h42, z1, z0, h0, h94, h126, hrv, hc, hf1, hx1, zY]
              refine yQ (by kernel_rfl) ?_
              rfl
end Go.Proofs.YtmcephnfcciloaaGreatDoor
/- Ranges, by the reference: parts cut, all; notices. Conditions: those of each lemma. -/
namespace Go.Proofs.YtmcephnfcciloaaGreatDoor
open E
set_option linter.unusedSimpArgs false
set_option linter.unusedVariables false
set_option maxRecDepth 100000
def glue (c : Str) : List Str → List Str
  | p :: r => (c ++ p) :: r
  | [] => []
theorem fD : ∀ l : List Str, glue [] l = l
  | [] => rfl
  | p :: r => rfl
theorem mw : ∀ (k : Nat) (s : Str), s.length < 4 → k ≤ s.length → yV k s = [s.drop k]
  | k, [], _, h => by
    have : k = 0 := by simpa using h
    subst this; rfl
  | 0, x :: r, h, _ => by
    have hp : wF.isPrefixOf (x :: r) = false := by
      cases h2 : wF.isPrefixOf (x :: r) with
      | false => rfl
      | true => have := TS h2; omega
    have ih := mw 0 r (by simp only [List.length_cons] at h; omega) (by omega)
    rw [uf x r r [] hp ih]; rfl
  | k + 1, x :: r, h, hk => by
    rw [yV, mw k r (by simp only [List.length_cons] at h; omega) (by simpa using hk)]; rfl
theorem eU (s : Str) (h : 4 ≤ s.length) : wF.isPrefixOf s = (s.take 4 == wF) := by
  match s, h with
  | a :: b :: c :: d :: r, _ =>
    unfold wF
    rw [Bool.eq_iff_iff]
    simp [List.isPrefixOf]
    constructor
    · rintro ⟨h1, h2, h3, h4⟩; exact ⟨h1.symm, h2.symm, h3.symm, h4.symm⟩
    · rintro ⟨h1, h2, h3, h4⟩; exact ⟨h1.symm, h2.symm, h3.symm, h4.symm⟩
theorem qg (s : Str) (hl : s.length ≤ 4194304) : ∀ (n f m : Nat) (out : List Str) (cap : Option Nat), s.length - m = n → f ≤ s.length → m ≤ s.length → out.length ≤ m →
    ∃ (out' : List Str) (fr : Nat) (cap' : Option Nat), out'.length ≤ s.length ∧ fr ≤ s.length ∧ out' ++ [s.drop fr] = out ++ glue ((s.drop f).take (m - f)) (yV (f - m) (s.drop m)) ∧
      EV Tryz.prog pol (.loop 85 122 0 [.t (.str s), .sl 0 0 out.length cap, .t (.int .i64 (f : Int)), .t (.int .i64 (m : Int))] [.ts 1 (y6 out)]) = some (.loop (.exit 0) [.t (.str s), .sl 0 0 out'.length cap', .t (.int .i64 (fr : Int))] [.ts 1 (y6 out')])
  | n, f, m, out, cap, hn, hf, hm, ho => by
    by_cases hc : m + 4 ≤ s.length
    · have c : decide ((m : Int) + 4 ≤ (s.length : Int)) = true := decide_eq_true (by omega)
      have e4 : ((m : Int) + 4) = ((m + 4 : Nat) : Int) := by omega
      have e1 : ((m : Int) + 1) = ((m + 1 : Nat) : Int) := by omega
      have hdl : (s.drop m).length = s.length - m := List.length_drop
      obtain ⟨x, r, hx⟩ : ∃ x r, s.drop m = x :: r := by
        cases h : s.drop m with
        | nil => rw [h] at hdl; simp at hdl; omega
        | cons x r => exact ⟨x, r, rfl⟩
      have hr : s.drop (m + 1) = r := by rw [← List.drop_drop, hx]; rfl
      by_cases hfm : f ≤ m
      · have g : decide ((m : Int) ≥ (f : Int)) = true := decide_eq_true (by omega)
        have hk : f - m = 0 := by omega
        have ht := eU (s.drop m) (by omega)
        have hN : ((m : Int) + 4).toNat - m = 4 := by omega
        have hN2 : ((m : Int) + 4).toNat = m + 4 := by omega
        have hol : out.length ≤ 4194304 := by omega
        cases hp : wF.isPrefixOf (s.drop m) with
        | true =>
          obtain ⟨out', fr, cap', q1, q2, q3, q4⟩ := qg s hl (n - 1) (m + 4) (m + 1) (out ++ [(s.drop f).take (m - f)]) none (by omega) (by omega) (by omega) (by simp; omega)
          refine ⟨out', fr, cap', q1, q2, ?_, ?_⟩
          · rw [q3, hr, show m + 4 - (m + 1) = 3 by omega, show m + 1 - (m + 4) = 0 by omega, hk, hx, mv x r (by rw [← hx]; exact hp)]
            rw [show glue ((s.drop f).take (m - f)) ([] :: yV 3 r) = ((s.drop f).take (m - f) ++ []) :: yV 3 r from rfl, List.take_zero, fD, List.append_nil, List.append_assoc]; rfl
          · rw [hp] at ht
            rw [uq, xj, yf, List.length_append, List.length_cons, List.length_nil, Nat.zero_add, ← e4, ← e1] at q4
            have ht' : ((s.drop m).take 4 == [32, 124, 124, 32]) = true := ht.symm
            clear hx hr q3
            refine zz Tryz.func85 rfl rfl ?_
            simp (disch := ((try simp only [LL]); omega)) only [↓GO, ↓DRW, GA, ren, zB, zf, refs, zb, cst, zl, zH, z7, E.load, E.store, zG, isC, bin, zI, zJ, una, z8, za, zh, zK, blt, fnV, asArg, zd, zn, zo, zj, zi, zg, zk, zr, z6, zD, zF, mkS, zc, unN, zM, zm, zy, zC, ze, zN, zq, GS, Int.reduceToNat, Nat.reduceGT, ↓reduceIte, Nat.reduceAdd, Nat.reduceMul, Nat.reduceSub, Nat.reduceEqDiff, Nat.reduceLeDiff, Nat.reduceLT, Nat.reduceBEq, Int.reduceBEq, Int.reduceBNe, Int.reduceEq, Int.reduceLT, Int.reduceLE, Int.reduceGT, Int.reduceNeg, reduceCtorEq, GZ, c, g, hN, ht', zx, q4, zR, wc]
        | false =>
          obtain ⟨out', fr, cap', q1, q2, q3, q4⟩ := qg s hl (n - 1) f (m + 1) out cap (by omega) (by omega) (by omega) (by omega)
          refine ⟨out', fr, cap', q1, q2, ?_, ?_⟩
          · rw [q3, hr, hk, show f - (m + 1) = 0 by omega, hx]
            have htk : (s.drop f).take (m + 1 - f) = (s.drop f).take (m - f) ++ [x] := by
              have hdd : (s.drop f).drop (m - f) = x :: r := by rw [List.drop_drop, show f + (m - f) = m by omega]; exact hx
              rw [show m + 1 - f = (m - f) + 1 by omega, List.take_add, hdd]; rfl
            rw [htk]
            cases h0 : yV 0 r with
            | nil => exact absurd h0 (qw 0 r)
            | cons p q => rw [uf x r p q (by rw [← hx]; exact hp) h0]; simp [glue]
          · rw [hp] at ht
            rw [← e1] at q4
            have ht' : ((s.drop m).take 4 == [32, 124, 124, 32]) = false := ht.symm
            clear hx hr q3
            refine zz Tryz.func85 rfl rfl ?_
            simp (disch := ((try simp only [LL]); omega)) only [↓GO, ↓DRW, GA, ren, zB, zf, refs, zb, cst, zl, zH, z7, E.load, E.store, zG, isC, bin, zI, zJ, una, z8, za, zh, zK, blt, fnV, asArg, zd, zn, zo, zj, zi, zg, zk, zr, z6, zD, zF, mkS, zc, unN, zM, zm, zy, zC, ze, zN, zq, GS, Int.reduceToNat, Nat.reduceGT, ↓reduceIte, Nat.reduceAdd, Nat.reduceMul, Nat.reduceSub, Nat.reduceEqDiff, Nat.reduceLeDiff, Nat.reduceLT, Nat.reduceBEq, Int.reduceBEq, Int.reduceBNe, Int.reduceEq, Int.reduceLT, Int.reduceLE, Int.reduceGT, Int.reduceNeg, reduceCtorEq, GZ, c, g, hN, ht', zx, q4, zR, wc]
      · have g : decide ((m : Int) ≥ (f : Int)) = false := decide_eq_false (by omega)
        obtain ⟨out', fr, cap', q1, q2, q3, q4⟩ := qg s hl (n - 1) f (m + 1) out cap (by omega) (by omega) (by omega) (by omega)
        refine ⟨out', fr, cap', q1, q2, ?_, ?_⟩
        · rw [q3, hr, show m + 1 - f = 0 by omega, show m - f = 0 by omega, hx, show f - m = (f - (m + 1)) + 1 by omega, yV]
        · rw [← e1] at q4
          clear hx hr q3
          refine zz Tryz.func85 rfl rfl ?_
          simp (disch := ((try simp only [LL]); omega)) only [↓GO, ↓DRW, GA, ren, zB, zf, refs, zb, cst, zl, zH, z7, E.load, E.store, zG, isC, bin, zI, zJ, una, z8, za, zh, zK, blt, fnV, asArg, zd, zn, zo, zj, zi, zg, zk, zr, z6, zD, zF, mkS, zc, unN, zM, zm, zy, zC, ze, zN, zq, GS, Int.reduceToNat, Nat.reduceGT, ↓reduceIte, Nat.reduceAdd, Nat.reduceMul, Nat.reduceSub, Nat.reduceEqDiff, Nat.reduceLeDiff, Nat.reduceLT, Nat.reduceBEq, Int.reduceBEq, Int.reduceBNe, Int.reduceEq, Int.reduceLT, Int.reduceLE, Int.reduceGT, Int.reduceNeg, reduceCtorEq, GZ, c, g, zx, q4, zR, wc]
    · have c : decide ((m : Int) + 4 ≤ (s.length : Int)) = false := decide_eq_false (by omega)
      refine ⟨out, f, cap, by omega, hf, ?_, ?_⟩
      · have hdl : (s.drop m).length = s.length - m := List.length_drop
        rw [mw (f - m) (s.drop m) (by omega) (by omega)]
        simp only [glue, List.drop_drop]
        by_cases hfm : f ≤ m
        · rw [show f - m = 0 by omega, Nat.add_zero]
          congr 2
          have := List.take_append_drop (m - f) (s.drop f)
          rw [List.drop_drop, show f + (m - f) = m by omega] at this
          exact this.symm
        · rw [show m - f = 0 by omega, show m + (f - m) = f by omega]; rfl
      · refine zz Tryz.func85 rfl rfl ?_
        simp (disch := ((try simp only [LL]); omega)) only [↓GO, ↓DRW, GA, ren, zB, zf, refs, zb, cst, zl, zH, z7, E.load, E.store, zG, isC, bin, zI, zJ, una, z8, za, zh, zK, blt, fnV, asArg, zd, zn, zo, zj, zi, zg, zk, zr, z6, zD, zF, mkS, zc, unN, zM, zm, zy, zC, ze, zN, zq, GS, Int.reduceToNat, Nat.reduceGT, ↓reduceIte, Nat.reduceAdd, Nat.reduceMul, Nat.reduceSub, Nat.reduceEqDiff, Nat.reduceLeDiff, Nat.reduceLT, Nat.reduceBEq, Int.reduceBEq, Int.reduceBNe, Int.reduceEq, Int.reduceLT, Int.reduceLE, Int.reduceGT, Int.reduceNeg, reduceCtorEq, GZ, c, zx]
termination_by n f m => s.length - m
decreasing_by all_goals omega
theorem XF (s : Str) (hl : s.length ≤ 4194304) : zE (EV Tryz.prog pol) 85 [.t (.str s)] = some (.t (.list 1 (y6 (yV 0 s)))) := by
  obtain ⟨out, fr, cap, q1, q2, q3, q4⟩ := qg s hl s.length 0 0 [] (some 0) (by omega) (by omega) (by omega) (by simp)
  simp only [List.nil_append, List.length_nil, Int.natCast_zero, yf, List.drop_zero, Nat.sub_zero, List.take_zero, fD, Nat.sub_self] at q4 q3
  have ho : (y6 out ++ [[.str (List.drop fr s)]]) = y6 (yV 0 s) := by rw [← q3, uq]; rfl
  have ht : List.take (out.length + 1) (y6 (yV 0 s)) = y6 (yV 0 s) := List.take_of_length_le (by rw [zR, ← q3]; simp)
  apply zu
  refine zw rfl Tryz.func85 rfl (by kernel_rfl) ?_
  unfold Tryz.f85
  simp (disch := ((try simp only [LL]); omega)) only [↓GO, ↓DRW, GA, ren, zB, zf, refs, zb, cst, zl, zH, z7, E.load, E.store, zG, isC, bin, zI, zJ, una, z8, za, zh, zK, blt, fnV, asArg, zd, zn, zo, zj, zi, zg, zk, zr, z6, zD, zF, mkS, zc, unN, zM, zm, zy, zC, ze, zN, zq, GS, Int.reduceToNat, Nat.reduceGT, ↓reduceIte, Nat.reduceAdd, Nat.reduceMul, Nat.reduceSub, Nat.reduceEqDiff, Nat.reduceLeDiff, Nat.reduceLT, Nat.reduceBEq, Int.reduceBEq, Int.reduceBNe, Int.reduceEq, Int.reduceLT, Int.reduceLE, Int.reduceGT, Int.reduceNeg, reduceCtorEq, GZ, q4, zR, wc, ho, ht]
end Go.Proofs.YtmcephnfcciloaaGreatDoor
/- Ranges, by the reference: the whole; notices; the law. Conditions: those of each lemma. -/
namespace Go.Proofs.YtmcephnfcciloaaGreatDoor
open E
set_option linter.unusedSimpArgs false
set_option linter.unusedVariables false
set_option maxRecDepth 100000
/-- how the reference's loop ends -/
def oe (ps : List Str) (acc : List Bd) (cap : Option Nat) (x : List Bd) : Option (List Bd) → xN
  | some bs => .loop (.exit 0) [.bad, .bad, .sl 0 0 (acc.length + bs.length) cap] [.ts 2 (bdT (acc ++ bs))]
  | none => .loop .ret [.sl 0 0 0 (some 0), .t (.bool false), .sl 1 0 x.length cap] [.ts 2 [], .ts 2 (bdT x)]
theorem TY (ps : List Str) (hl : ps.length ≤ 1048577) (hb : ∀ p ∈ ps, p.length ≤ 1048576) : ∀ (rest pre : List Str) (acc : List Bd) (cap : Option Nat) (m : Nat), ps = pre ++ rest → m = acc.length → acc.length = pre.length →
    ∃ cap' x, EV Tryz.prog pol (.loop 58 250 0 [.sl 0 0 m cap, .t (.list 1 (y6 ps)), .t (.int .i64 (pre.length : Int))] [.ts 2 (bdT acc)]) = some (oe ps acc cap' x (vO rest))
  | [], pre, acc, cap, m, hs, hm, ha => by
    have c : decide ((pre.length : Int) < (ps.length : Int)) = false := by simp [hs]
    refine ⟨cap, [], ?_⟩
    simp only [vO, oe, List.append_nil, List.length_nil, Nat.add_zero]
    subst hm
    refine zz Tryz.func58 rfl rfl ?_
    simp (disch := ((try simp only [LL]); omega)) only [↓GO, ↓DRW, GA, ren, zB, zf, refs, zb, cst, zl, zH, z7, E.load, E.store, zG, isC, bin, zI, zJ, una, z8, za, zh, zK, blt, fnV, asArg, zd, zn, zo, zj, zi, zg, zk, zr, z6, zD, zF, mkS, zc, unN, zM, zm, zy, zC, ze, zN, zq, GS, Int.reduceToNat, Nat.reduceGT, ↓reduceIte, Nat.reduceAdd, Nat.reduceMul, Nat.reduceSub, Nat.reduceEqDiff, Nat.reduceLeDiff, Nat.reduceLT, Nat.reduceBEq, Int.reduceBEq, Int.reduceBNe, Int.reduceEq, Int.reduceLT, Int.reduceLE, Int.reduceGT, Int.reduceNeg, reduceCtorEq, GZ, c, zR, zY]
  | p :: rest, pre, acc, cap, m, hs, hm, ha => by
    have c : decide ((pre.length : Int) < (ps.length : Int)) = true := by simp [hs]; omega
    have hget : (y6 ps)[pre.length]? = some [.str p] := by rw [hs]; exact wy (fun s : Str => [T.str s]) pre p rest
    have hlen : pre.length + rest.length + 1 ≤ ps.length := by rw [hs]; simp; omega
    have hpb := hb p (by rw [hs]; simp)
    have hB := Tn p hpb
    have IHs := fun b => TY ps hl hb rest (pre ++ [p]) (acc ++ [b]) none (m + 1) (by rw [hs]; simp) (by simp [hm]) (by simp [ha])
    rw [show ((pre ++ [p]).length : Int) = (pre.length : Int) + 1 by simp] at IHs
    have hol : (bdT acc).length = m := by rw [xM, hm]
    have hml : m ≤ 1048578 := by omega
    have hpl : pre.length ≤ 1048577 := by omega
    clear hs hb
    simp only [vO]
    cases hp : xJ p with
    | none =>
      rw [hp] at hB
      refine ⟨cap, acc, ?_⟩
      simp only [bT] at hB
      unfold oe
      simp only
      subst hm
      refine zz Tryz.func58 rfl rfl ?_
      simp (disch := ((try simp only [LL]); omega)) only [↓GO, ↓DRW, GA, ren, zB, zf, refs, zb, cst, zl, zH, z7, E.load, E.store, zG, isC, bin, zI, zJ, una, z8, za, zh, zK, blt, fnV, asArg, zd, zn, zo, zj, zi, zg, zk, zr, z6, zD, zF, mkS, zc, unN, zM, zm, zy, zC, ze, zN, zq, GS, Int.reduceToNat, Nat.reduceGT, ↓reduceIte, Nat.reduceAdd, Nat.reduceMul, Nat.reduceSub, Nat.reduceEqDiff, Nat.reduceLeDiff, Nat.reduceLT, Nat.reduceBEq, Int.reduceBEq, Int.reduceBNe, Int.reduceEq, Int.reduceLT, Int.reduceLE, Int.reduceGT, Int.reduceNeg, reduceCtorEq, GZ, c, hget, hB, zx, hol, zR, zY, wc]
    | some b =>
      obtain ⟨lo, hi⟩ := b
      rw [hp] at hB
      simp only [bT] at hB
      obtain ⟨cap', x, IH⟩ := IHs (lo, hi)
      refine ⟨cap', x, ?_⟩
      rw [aK, show bdT [(lo, hi)] = [[T.str lo, T.str hi]] from rfl] at IH
      simp only
      rw [show oe ps (acc ++ [(lo, hi)]) cap' x (vO rest) = oe ps acc cap' x (match vO rest with | some bs => some ((lo, hi) :: bs) | none => none) by
        cases vO rest with
        | none => rfl
        | some bs => simp only [oe]; rw [List.append_assoc]; simp only [List.length_append, List.length_cons, List.length_nil, List.cons_append, List.nil_append]; rw [show acc.length + (0 + 1) + bs.length = acc.length + (bs.length + 1) by omega]] at IH
      refine zz Tryz.func58 rfl rfl ?_
      simp (disch := ((try simp only [LL]); omega)) only [↓GO, ↓DRW, GA, ren, zB, zf, refs, zb, cst, zl, zH, z7, E.load, E.store, zG, isC, bin, zI, zJ, una, z8, za, zh, zK, blt, fnV, asArg, zd, zn, zo, zj, zi, zg, zk, zr, z6, zD, zF, mkS, zc, unN, zM, zm, zy, zC, ze, zN, zq, GS, Int.reduceToNat, Nat.reduceGT, ↓reduceIte, Nat.reduceAdd, Nat.reduceMul, Nat.reduceSub, Nat.reduceEqDiff, Nat.reduceLeDiff, Nat.reduceLT, Nat.reduceBEq, Int.reduceBEq, Int.reduceBNe, Int.reduceEq, Int.reduceLT, Int.reduceLE, Int.reduceGT, Int.reduceNeg, reduceCtorEq, GZ, c, hget, hB, zx, hol, zR, IH, zY, wc]
      try (cases vO rest <;> rfl)
theorem S9 (s : Str) (hl : s.length ≤ 1048576) : zE (EV Tryz.prog pol) 58 [.t (.str s)] = some (rrT (wm s)) := by
  unfold wm
  have h1 := XF s (by omega)
  have hbk := ug 0 s
  have hcn : 1 ≤ (yV 0 s).length := by
    cases hc : yV 0 s with
    | nil => exact absurd hc (qw 0 s)
    | cons p q => simp
  have hmem : ∀ p ∈ yV 0 s, p.length ≤ 1048576 := fun p hp => by have := xV hp; omega
  generalize yV 0 s = ps at *
  obtain ⟨cap, x, L⟩ := TY ps (by omega) hmem ps [] [] (some 0) 0 rfl rfl rfl
  rw [show bdT [] = [] from rfl] at L
  simp only [List.length_nil, Int.natCast_zero] at L
  have hpl : ps.length ≤ 1048577 := by omega
  cases h200 : decide ((s.length : Int) > 200) with
  | true =>
    simp only [Bool.true_or, cond_true, rrT]
    apply zu
    refine zw rfl Tryz.func58 rfl (by kernel_rfl) ?_
    unfold Tryz.f58
    simp (disch := ((try simp only [LL]); omega)) only [↓GO, ↓DRW, GA, ren, zB, zf, refs, zb, cst, zl, zH, z7, E.load, E.store, zG, isC, bin, zI, zJ, una, z8, za, zh, zK, blt, fnV, asArg, zd, zn, zo, zj, zi, zg, zk, zr, z6, zD, zF, mkS, zc, unN, zM, zm, zy, zC, ze, zN, zq, GS, Int.reduceToNat, Nat.reduceGT, ↓reduceIte, Nat.reduceAdd, Nat.reduceMul, Nat.reduceSub, Nat.reduceEqDiff, Nat.reduceLeDiff, Nat.reduceLT, Nat.reduceBEq, Int.reduceBEq, Int.reduceBNe, Int.reduceEq, Int.reduceLT, Int.reduceLE, Int.reduceGT, Int.reduceNeg, reduceCtorEq, GZ, h1, h200, zR]
  | false =>
    cases h8 : decide ((ps.length : Int) > 8) with
    | true =>
      simp only [Bool.or_true, cond_true, rrT]
      apply zu
      refine zw rfl Tryz.func58 rfl (by kernel_rfl) ?_
      unfold Tryz.f58
      simp (disch := ((try simp only [LL]); omega)) only [↓GO, ↓DRW, GA, ren, zB, zf, refs, zb, cst, zl, zH, z7, E.load, E.store, zG, isC, bin, zI, zJ, una, z8, za, zh, zK, blt, fnV, asArg, zd, zn, zo, zj, zi, zg, zk, zr, z6, zD, zF, mkS, zc, unN, zM, zm, zy, zC, ze, zN, zq, GS, Int.reduceToNat, Nat.reduceGT, ↓reduceIte, Nat.reduceAdd, Nat.reduceMul, Nat.reduceSub, Nat.reduceEqDiff, Nat.reduceLeDiff, Nat.reduceLT, Nat.reduceBEq, Int.reduceBEq, Int.reduceBNe, Int.reduceEq, Int.reduceLT, Int.reduceLE, Int.reduceGT, Int.reduceNeg, reduceCtorEq, GZ, h1, h200, h8, zR]
    | false =>
      simp only [Bool.or_false, cond_false]
      cases ha : vO ps with
      | none =>
        rw [ha] at L
        simp only [oe, rrT] at L ⊢
        apply zu
        refine zw rfl Tryz.func58 rfl (by kernel_rfl) ?_
        unfold Tryz.f58
        simp (disch := ((try simp only [LL]); omega)) only [↓GO, ↓DRW, GA, ren, zB, zf, refs, zb, cst, zl, zH, z7, E.load, E.store, zG, isC, bin, zI, zJ, una, z8, za, zh, zK, blt, fnV, asArg, zd, zn, zo, zj, zi, zg, zk, zr, z6, zD, zF, mkS, zc, unN, zM, zm, zy, zC, ze, zN, zq, GS, Int.reduceToNat, Nat.reduceGT, ↓reduceIte, Nat.reduceAdd, Nat.reduceMul, Nat.reduceSub, Nat.reduceEqDiff, Nat.reduceLeDiff, Nat.reduceLT, Nat.reduceBEq, Int.reduceBEq, Int.reduceBNe, Int.reduceEq, Int.reduceLT, Int.reduceLE, Int.reduceGT, Int.reduceNeg, reduceCtorEq, GZ, h1, h200, h8, L, zR, zY]
      | some l =>
        have hll := (sB ps l ha).2
        rw [ha] at L
        simp only [oe, List.nil_append, List.length_nil, Nat.zero_add] at L ⊢
        have ht : (bdT l).take l.length = bdT l := List.take_of_length_le (by rw [xM]; omega)
        simp only [rrT]
        apply zu
        refine zw rfl Tryz.func58 rfl (by kernel_rfl) ?_
        unfold Tryz.f58
        simp (disch := ((try simp only [LL]); omega)) only [↓GO, ↓DRW, GA, ren, zB, zf, refs, zb, cst, zl, zH, z7, E.load, E.store, zG, isC, bin, zI, zJ, una, z8, za, zh, zK, blt, fnV, asArg, zd, zn, zo, zj, zi, zg, zk, zr, z6, zD, zF, mkS, zc, unN, zM, zm, zy, zC, ze, zN, zq, GS, Int.reduceToNat, Nat.reduceGT, ↓reduceIte, Nat.reduceAdd, Nat.reduceMul, Nat.reduceSub, Nat.reduceEqDiff, Nat.reduceLeDiff, Nat.reduceLT, Nat.reduceBEq, Int.reduceBEq, Int.reduceBNe, Int.reduceEq, Int.reduceLT, Int.reduceLE, Int.reduceGT, Int.reduceNeg, reduceCtorEq, GZ, h1, h200, h8, L, zR, ht, xM, zY]
def xG (x : zt) : Bool := (wm x.range).isSome && (vg x.name && (wv x.text && !(x.text == [])))
theorem gm (o : Option (List Bd)) : ∃ t, rrT o = .tup [.t t, .t (.bool o.isSome)] := by
  cases o with
  | none => exact ⟨_, rfl⟩
  | some l => exact ⟨_, rfl⟩
theorem c_noR (x : zt) (hb : x.yh ≤ 1048576) : zE (EV Tryz.prog pol) 59 [.agg (x.enc.map .t)] = some (.t (.bool (xG x))) := by
  obtain ⟨name, range, text⟩ := x
  simp only [zt.yh] at hb
  have h1 := S9 range (by omega)
  have h2 := aD name (by omega)
  have h3 := ej text (by omega)
  obtain ⟨t, ht⟩ := gm (wm range)
  rw [ht] at h1
  unfold xG
  simp only [zt.enc, List.map_cons, List.map_nil]
  generalize (wm range).isSome = b1 at *
  generalize vg name = b2 at *
  generalize wv text = b3 at *
  cases b2 <;> cases b1 <;> cases b3 <;> cases hn : (text == [])
  all_goals
    apply zu
    refine zw rfl Tryz.func59 rfl (by kernel_rfl) ?_
    unfold Tryz.f59
    simp (disch := ((try simp only [LL]); omega)) only [↓GO, ↓DRW, GA, ren, zB, zf, refs, zb, cst, zl, zH, z7, E.load, E.store, zG, isC, bin, zI, zJ, una, z8, za, zh, zK, blt, fnV, asArg, zd, zn, zo, zj, zi, zg, zk, zr, z6, zD, zF, mkS, zc, unN, zM, zm, zy, zC, ze, zN, zq, GS, Int.reduceToNat, Nat.reduceGT, ↓reduceIte, Nat.reduceAdd, Nat.reduceMul, Nat.reduceSub, Nat.reduceEqDiff, Nat.reduceLeDiff, Nat.reduceLT, Nat.reduceBEq, Int.reduceBEq, Int.reduceBNe, Int.reduceEq, Int.reduceLT, Int.reduceLE, Int.reduceGT, Int.reduceNeg, reduceCtorEq, GZ, h1, h2, h3, hn, bne]
theorem c_noI (x : zt) (hb : x.yh ≤ 1048576) : zE (EV Tryz.prog pol) 65 [.agg (x.enc.map .t)] = some (.t (.bool (xG x))) := by
  obtain ⟨name, range, text⟩ := x
  simp only [zt.yh] at hb
  have h1 := Sa range (by omega)
  rw [ng] at h1
  have h2 := aE name (by omega)
  have h3 := ek text (by omega)
  obtain ⟨t, ht⟩ := gm (wm range)
  rw [ht] at h1
  unfold xG
  simp only [zt.enc, List.map_cons, List.map_nil]
  generalize (wm range).isSome = b1 at *
  generalize vg name = b2 at *
  generalize wv text = b3 at *
  cases b2 <;> cases b1 <;> cases b3 <;> cases hn : (text == [])
  all_goals
    apply zu
    refine zw rfl Tryz.func65 rfl (by kernel_rfl) ?_
    unfold Tryz.f65
    simp (disch := ((try simp only [LL]); omega)) only [↓GO, ↓DRW, GA, ren, zB, zf, refs, zb, cst, zl, zH, z7, E.load, E.store, zG, isC, bin, zI, zJ, una, z8, za, zh, zK, blt, fnV, asArg, zd, zn, zo, zj, zi, zg, zk, zr, z6, zD, zF, mkS, zc, unN, zM, zm, zy, zC, ze, zN, zq, GS, Int.reduceToNat, Nat.reduceGT, ↓reduceIte, Nat.reduceAdd, Nat.reduceMul, Nat.reduceSub, Nat.reduceEqDiff, Nat.reduceLeDiff, Nat.reduceLT, Nat.reduceBEq, Int.reduceBEq, Int.reduceBNe, Int.reduceEq, Int.reduceLT, Int.reduceLE, Int.reduceGT, Int.reduceNeg, reduceCtorEq, GZ, h1, h2, h3, hn, bne]
end Go.Proofs.YtmcephnfcciloaaGreatDoor
/- What the laws' arguments are: Notice. Conditions: those of each lemma. -/
namespace Go.Proofs.YtmcephnfcciloaaGreatDoor
open E
set_option linter.unusedSimpArgs false
set_option linter.unusedVariables false
set_option maxRecDepth 100000
theorem ZH {cs : List T} (h : WT Tryz.prog 48 cs) : ∃ x : zt, cs = x.enc ∧ x.ok := by
  obtain ⟨hl, hs⟩ := h.uR Tryz.underlying48
  have k0 : Tryz.prog.cellsOf 48 = 3 := by kernel_rfl
  have k1 : Tryz.prog.cellsOf 9 = 1 := by kernel_rfl
  rw [k0] at hl
  match cs, hl with
  | [y0, y1, y2], _ =>
    simp [k1] at hs
    obtain ⟨s0, s1, s2⟩ := hs
    obtain ⟨v0, e0, o0⟩ := s0.vq Tryz.underlying9
    obtain ⟨v1, e1, o1⟩ := s1.vq Tryz.underlying9
    obtain ⟨v2, e2, o2⟩ := s2.vq Tryz.underlying9
    simp at e0 e1 e2
    subst e0 e1 e2
    exact ⟨⟨v0, v1, v2⟩, rfl, ⟨o0, o1, o2⟩⟩
end Go.Proofs.YtmcephnfcciloaaGreatDoor
/- What the laws' arguments are: a graph and notices. Conditions: those of each lemma. -/
namespace Go.Proofs.YtmcephnfcciloaaGreatDoor
open E
set_option linter.unusedSimpArgs false
set_option linter.unusedVariables false
set_option maxRecDepth 100000
theorem dA {cs : List T} (h : WT Tryz.prog 26 cs) : ∃ l : List zt, cs = [.list 3 (zt.zV l)] ∧ l.length ≤ 9223372036854775807 ∧ ∀ y ∈ l, y.ok := by
  obtain ⟨es, e1, e2, e3⟩ := h.qi Tryz.underlying26
  have k0 : Tryz.prog.cellsOf 48 = 3 := by kernel_rfl
  have key : ∀ es : List (List T), (∀ c ∈ es, WT Tryz.prog 48 c) → ∃ l : List zt, es = zt.zV l ∧ ∀ y ∈ l, y.ok := fun es => by
    induction es with
    | nil => exact fun _ => ⟨[], rfl, by simp⟩
    | cons c es ih =>
      intro h
      obtain ⟨l, a1, a2⟩ := ih fun c' hc => h c' (by simp [hc])
      obtain ⟨x, a3, a4⟩ := ZH (h c (by simp))
      exact ⟨x :: l, by simp [zt.zV, a1, a3], by simpa using ⟨a4, a2⟩⟩
  obtain ⟨l, a1, a2⟩ := key es e3
  subst a1
  exact ⟨l, by rw [e1, k0], by rw [zt.zT] at e2; exact e2, a2⟩
/-- a graph and notices handed in -/
theorem eK {xs : List V} (h : WTA Tryz.prog [25, 26] xs) : ∃ (g : zU) (ns : List zt), xs = [.agg (g.enc.map .t), .t (.list 3 (zt.zV ns))] ∧ g.ok ∧ ns.length ≤ 9223372036854775807 ∧ ∀ n ∈ ns, n.ok := by
  obtain ⟨cs, v, vs, rfl, h1, h2, h3⟩ := h.fo
  obtain ⟨cs', v', vs', rfl, h1', h2', h3'⟩ := h3.fo
  have := h3'.T3
  subst this
  obtain ⟨g, rfl, ho⟩ := W5 h1
  obtain ⟨ns, rfl, hl, hon⟩ := dA h1'
  obtain ⟨top, packs⟩ := g
  have e : y9 Tryz.prog 25 = true := by kernel_rfl
  have e' : y9 Tryz.prog 26 = false := by kernel_rfl
  rw [e] at h2
  rw [e'] at h2'
  simp [zh, zU.enc] at h2 h2'
  subst h2 h2'
  exact ⟨⟨top, packs⟩, ns, rfl, ho, hl, hon⟩
end Go.Proofs.YtmcephnfcciloaaGreatDoor
/- The laws' own functions over trees: sizes, comparisons. Conditions: those of each lemma. -/
namespace Go.Proofs.YtmcephnfcciloaaGreatDoor
open E
set_option linter.unusedSimpArgs false
set_option linter.unusedVariables false
set_option maxRecDepth 100000
end Go.Proofs.YtmcephnfcciloaaGreatDoor
/- Lists that own their memory, as rows; trees laid anew. Conditions: those of each lemma. -/
namespace Go.Proofs.YtmcephnfcciloaaGreatDoor
open E
set_option linter.unusedSimpArgs false
set_option linter.unusedVariables false
set_option maxRecDepth 100000
theorem zY (h : Heap) (ids : List Nat) : reach h 3 ids = vK h 3 ids := (ud h 3 ids).symm
/-- a row whose lists are owned -/
def ocE (es : List (List T)) : List (List V) := es.map fun e => e.map oc
theorem qn (es : List (List T)) : (ocE es).length = es.length := by simp [ocE]
theorem bx (a b : List (List T)) : ocE (a ++ b) = ocE a ++ ocE b := by simp [ocE]
theorem tO (x : List T) (b : List (List T)) : ocE (x :: b) = x.map oc :: ocE b := rfl
theorem bw : ocE [] = [] := rfl
theorem UJ (x : T) : refs (oc x) = [] := by cases x <;> rfl
theorem gL : ∀ e : List T, refs.refss (e.map oc) = []
  | [] => rfl
  | x :: e => by simp only [List.map_cons, refs.refss, UJ, gL e, List.nil_append]
theorem yX : ∀ es : List (List T), (ocE es).flatMap refs.refss = []
  | [] => rfl
  | e :: es => by rw [tO, List.flatMap_cons, gL, yX es]; rfl
theorem Sv (m : Nat → Option Nat) (x : T) : ren m (oc x) = oc x := by cases x <;> rfl
theorem br (m : Nat → Option Nat) : ∀ e : List T, ren.rens m (e.map oc) = e.map oc
  | [] => rfl
  | x :: e => by simp only [List.map_cons, ren.rens, Sv, br m e]
theorem xx (m : Nat → Option Nat) : ∀ es : List (List T), (ocE es).map (ren.rens m) = ocE es
  | [] => rfl
  | e :: es => by rw [tO, List.map_cons, br, xx m es]
theorem nZ (z : List V) (hz : refs.refss z = []) : ∀ k, (List.replicate k z).flatMap refs.refss = []
  | 0 => rfl
  | k + 1 => by rw [List.replicate_succ, List.flatMap_cons, hz, nZ z hz k]; rfl
theorem ba (m : Nat → Option Nat) (z : List V) (hz : ren.rens m z = z) (k : Nat) : (List.replicate k z).map (ren.rens m) = List.replicate k z := by rw [List.map_replicate, hz]
theorem qp {α : Type} (A B : List α) (x : α) (n : Nat) (h : A.length = n) : (A ++ x :: B)[n]? = some x := by
  rw [List.getElem?_append_right (by omega), h, Nat.sub_self]; rfl
theorem qo {α : Type} (A B : List α) (x y : α) (n : Nat) (h : A.length = n) : (A ++ x :: B).set n y = A ++ y :: B := by
  rw [List.set_append_right _ _ (by omega), h, Nat.sub_self]; rfl
theorem gv_oc (x : T) : gvC (oc x) = some x := by cases x <;> rfl
theorem VZ : ∀ e : List T, eI (e.map oc) = some e
  | [] => rfl
  | x :: e => by simp only [List.map_cons, eI, gv_oc, VZ e]
theorem U0 : ∀ es : List (List T), gvE (ocE es) = some es
  | [] => rfl
  | e :: es => by rw [tO]; simp only [gvE, VZ, U0 es]
theorem YY (h : Heap) (x : T) : zi h (oc x) = some x := by cases x <;> rfl
theorem gg (h : Heap) : ∀ e : List T, xy h (e.map oc) = some e
  | [] => rfl
  | x :: e => by simp only [List.map_cons, xy, YY, gg h e]
theorem nT (h : Heap) : ∀ es : List (List T), vP h (ocE es) = some es
  | [] => rfl
  | e :: es => by rw [tO]; simp only [vP, gg, nT h es]
theorem vD : ∀ l : List Str, qD (y6 l) = true
  | [] => rfl
  | x :: l => by
    have := vD l
    unfold qD y6 at this ⊢
    rw [List.map_cons, List.all_cons, this]; rfl
theorem mA (ks : List Str) (hl : ks.length ≤ 1048576) : EV Tryz.prog pol (.callO false 30 [.t (.list 1 (y6 ks))] []) = some (.call (.sl 0 0 ks.length (some ks.length)) [.ts 1 (y6 ks)]) := by
  refine yK Tryz.func30 rfl (by kernel_rfl) ?_
  unfold Tryz.f30
  have h1 : ¬ ((ks.length : Int) < 0) := by omega
  have h2 : ¬ (ks.length * 16 > 140737488355328) := by omega
  have h3 : ¬ (ks.length > 140737488355328) := by omega
  have hz : List.replicate ks.length [T.str []] = wj (y6 ks) [.str []] 0 := by rw [uT, zR]
  have IH := pJ ks hl ks.length 0 (by omega) (by omega)
  simp only [Int.natCast_zero] at IH
  simp (disch := omega) only [↓GO, ↓DRW, GA, ren, zB, zf, refs, zb, cst, zl, zH, z7, E.load, E.store, zG, isC, bin, zI, zJ, una, z8, za, zh, zK, blt, fnV, asArg, zd, zn, zo, zj, zi, zg, zk, zr, z6, zD, zF, mkS, zc, unN, zM, zm, zy, zC, ze, zN, zq, GS, Int.reduceToNat, Nat.reduceGT, ↓reduceIte, Nat.reduceAdd, Nat.reduceMul, Nat.reduceSub, Nat.reduceEqDiff, Nat.reduceLeDiff, Nat.reduceLT, Nat.reduceBEq, Int.reduceBEq, Int.reduceBNe, Int.reduceEq, Int.reduceLT, Int.reduceLE, Int.reduceGT, Int.reduceNeg, reduceCtorEq, zR, Int.toNat_natCast, h1, h2, h3, hz, IH, ne_eq, not_true_eq_false]
end Go.Proofs.YtmcephnfcciloaaGreatDoor
/- Trees laid anew; marks. Conditions: those of each lemma. -/
namespace Go.Proofs.YtmcephnfcciloaaGreatDoor
open E
set_option linter.unusedSimpArgs false
set_option linter.unusedVariables false
set_option maxRecDepth 100000
def mkD : Nat → Nat → Str → Str
  | 0, _, out => out
  | n + 1, k, out => if k = 0 then out else mkD n (k / 10) (UInt8.ofNat (48 + k % 10) :: out)
/-- a number's mark -/
def mkT (k : Nat) : Str := if k = 0 then [109, 48] else 109 :: mkD k k []
theorem S1 : ∀ (n k : Nat) (out : Str), k ≤ n → k ≤ 9223372036854775807 → out.length + k ≤ 9223372036854775000 →
    EV Tryz.prog pol (.loop 39 60 0 [.t (.int .i64 (k : Int)), .t (.str out)] []) = some (.loop (.exit 0) [.t (.str (mkD n k out))] [])
  | n, 0, out, h, h1, h2 => by
    have e : mkD n 0 out = out := by cases n <;> simp [mkD]
    rw [e]
    refine zz Tryz.func39 rfl rfl ?_
    simp (disch := ((try simp only [LL]); omega)) only [↓GO, ↓DRW, GA, ren, zB, zf, refs, zb, cst, zl, zH, z7, E.load, E.store, zG, isC, bin, zI, zJ, una, z8, za, zh, zK, blt, fnV, asArg, zd, zn, zo, zj, zi, zg, zk, zr, z6, zD, zF, mkS, zc, unN, zM, zm, zy, zC, ze, zN, zq, GS, Int.reduceToNat, Nat.reduceGT, ↓reduceIte, Nat.reduceAdd, Nat.reduceMul, Nat.reduceSub, Nat.reduceEqDiff, Nat.reduceLeDiff, Nat.reduceLT, Nat.reduceBEq, Int.reduceBEq, Int.reduceBNe, Int.reduceEq, Int.reduceLT, Int.reduceLE, Int.reduceGT, Int.reduceNeg, reduceCtorEq, GZ, Int.natCast_zero]
  | 0, k + 1, out, h, h1, h2 => by omega
  | n + 1, k + 1, out, h, h1, h2 => by
    generalize hm : k + 1 = x at *
    have c : decide (((x : Nat) : Int) > 0) = true := by apply decide_eq_true; omega
    have e1 : ((x : Nat) : Int).tmod 10 = ((x % 10 : Nat) : Int) := (Int.ofNat_tmod x 10).symm
    have e2 : ((x : Nat) : Int).tdiv 10 = ((x / 10 : Nat) : Int) := (Int.ofNat_tdiv x 10).symm
    have hd : x % 10 < 10 := Nat.mod_lt _ (by omega)
    have IH := S1 n (x / 10) (UInt8.ofNat (48 + x % 10) :: out) (by omega) (by omega) (by simp only [List.length_cons]; omega)
    have ex : mkD (n + 1) x out = mkD n (x / 10) (UInt8.ofNat (48 + x % 10) :: out) := by rw [mkD, if_neg (by omega)]
    rw [ex]
    have w1 : IntKind.i64.wrap (48 + ((x % 10 : Nat) : Int)) = ((48 + x % 10 : Nat) : Int) := by rw [zx (by omega)]; omega
    have w3 : IntKind.u8.wrap ((48 + x % 10 : Nat) : Int) = ((48 + x % 10 : Nat) : Int) := by
      have key : ∀ n : Fin 256, IntKind.u8.wrap (n.val : Int) = (n.val : Int) := by decide +kernel
      exact key ⟨48 + x % 10, by omega⟩
    have w2 : IntKind.i64.wrap ((x / 10 : Nat) : Int) = ((x / 10 : Nat) : Int) := zx (by omega)
    refine zz Tryz.func39 rfl rfl ?_
    simp (disch := ((try simp only [LL]); omega)) only [↓GO, ↓DRW, GA, ren, zB, zf, refs, zb, cst, zl, zH, z7, E.load, E.store, zG, isC, bin, zI, zJ, una, z8, za, zh, zK, blt, fnV, asArg, zd, zn, zo, zj, zi, zg, zk, zr, z6, zD, zF, mkS, zc, unN, zM, zm, zy, zC, ze, zN, zq, GS, Int.reduceToNat, Nat.reduceGT, ↓reduceIte, Nat.reduceAdd, Nat.reduceMul, Nat.reduceSub, Nat.reduceEqDiff, Nat.reduceLeDiff, Nat.reduceLT, Nat.reduceBEq, Int.reduceBEq, Int.reduceBNe, Int.reduceEq, Int.reduceLT, Int.reduceLE, Int.reduceGT, Int.reduceNeg, reduceCtorEq, GZ, c, e1, e2, w1, w2, w3, conv, wJ, bytesOf, Int.toNat_natCast, List.singleton_append, wc, IH]
end Go.Proofs.YtmcephnfcciloaaGreatDoor
/- Marks in lists of texts, in trees. Conditions: those of each lemma. -/
namespace Go.Proofs.YtmcephnfcciloaaGreatDoor
open E
set_option linter.unusedSimpArgs false
set_option linter.unusedVariables false
set_option maxRecDepth 100000
theorem lf : y6 [] = [] := rfl
theorem rC (k : Nat) (h : k ≤ 1099511627776) : zE (EV Tryz.prog pol) 39 [.t (.int .i64 (k : Int))] = some (.t (.str (mkT k))) := by
  have L := S1 k k [] (Nat.le_refl _) (by omega) (by simp; omega)
  have hlen : (mkD k k []).length ≤ k := by
    have key : ∀ (n x : Nat) (out : Str), (mkD n x out).length ≤ n + out.length := fun n => by
      induction n with
      | zero => intro x out; simp [mkD]
      | succ n ih =>
        intro x out
        rw [mkD]
        split
        · omega
        · have := ih (x / 10) (UInt8.ofNat (48 + x % 10) :: out); simp only [List.length_cons] at this; omega
    have := key k k []; simpa using this
  unfold mkT
  by_cases h0 : k = 0
  · subst h0
    have c : decide (((0 : Nat) : Int) ≤ 0) = true := by decide
    rw [if_pos rfl]
    apply zu
    refine zw rfl Tryz.func39 rfl (by kernel_rfl) ?_
    unfold Tryz.f39
    simp (disch := ((try simp only [LL]); omega)) only [↓GO, ↓DRW, GA, ren, zB, zf, refs, zb, cst, zl, zH, z7, E.load, E.store, zG, isC, bin, zI, zJ, una, z8, za, zh, zK, blt, fnV, asArg, zd, zn, zo, zj, zi, zg, zk, zr, z6, zD, zF, mkS, zc, unN, zM, zm, zy, zC, ze, zN, zq, GS, Int.reduceToNat, Nat.reduceGT, ↓reduceIte, Nat.reduceAdd, Nat.reduceMul, Nat.reduceSub, Nat.reduceEqDiff, Nat.reduceLeDiff, Nat.reduceLT, Nat.reduceBEq, Int.reduceBEq, Int.reduceBNe, Int.reduceEq, Int.reduceLT, Int.reduceLE, Int.reduceGT, Int.reduceNeg, reduceCtorEq, GZ, c, Int.natCast_zero]
  · have c : decide (((k : Nat) : Int) ≤ 0) = false := by apply decide_eq_false; omega
    rw [if_neg h0]
    generalize mkD k k [] = ms at *
    apply zu
    refine zw rfl Tryz.func39 rfl (by kernel_rfl) ?_
    unfold Tryz.f39
    simp (disch := ((try simp only [LL]); omega)) only [↓GO, ↓DRW, GA, ren, zB, zf, refs, zb, cst, zl, zH, z7, E.load, E.store, zG, isC, bin, zI, zJ, una, z8, za, zh, zK, blt, fnV, asArg, zd, zn, zo, zj, zi, zg, zk, zr, z6, zD, zF, mkS, zc, unN, zM, zm, zy, zC, ze, zN, zq, GS, Int.reduceToNat, Nat.reduceGT, ↓reduceIte, Nat.reduceAdd, Nat.reduceMul, Nat.reduceSub, Nat.reduceEqDiff, Nat.reduceLeDiff, Nat.reduceLT, Nat.reduceBEq, Int.reduceBEq, Int.reduceBNe, Int.reduceEq, Int.reduceLT, Int.reduceLE, Int.reduceGT, Int.reduceNeg, reduceCtorEq, GZ, c, L, List.singleton_append, List.cons_append, List.nil_append, wc]
def mkS : Nat → Nat → List Str
  | 0, _ => []
  | n + 1, k => mkT k :: mkS n (k + 1)
theorem vo : ∀ n k, (mkS n k).length = n
  | 0, _ => rfl
  | n + 1, k => by rw [mkS, List.length_cons, vo n (k + 1)]
theorem gV : ∀ n k, mkS (n + 1) k = mkS n k ++ [mkT (k + n)]
  | 0, k => rfl
  | n + 1, k => by
    rw [mkS, gV n (k + 1), mkS, List.cons_append, show k + 1 + n = k + (n + 1) by omega]
theorem bP (ks : List Str) (hl : ks.length ≤ 134217728) (cap : Option Nat) (k : Nat) (hk : k ≤ 1073741824) : ∀ (rest pre : List Str), ks = pre ++ rest →
    EV Tryz.prog pol (.loop 17 26 1 [.sl 0 0 ks.length cap, .t (.int .i64 ((k + pre.length : Nat) : Int)), .t (.int .i64 (pre.length : Int))] [.ts 1 (y6 (mkS pre.length k) ++ y6 rest)])
      = some (.loop (.exit 0) [.t (.int .i64 ((k + ks.length : Nat) : Int))] [.ts 1 (y6 (mkS ks.length k))])
  | [], pre, hs => by
    have c : decide ((pre.length : Int) < (ks.length : Int)) = false := by simp [hs]
    have e : ks = pre := by simpa using hs
    simp only [lf, List.append_nil]
    refine zz Tryz.func17 rfl rfl ?_
    simp (disch := ((try simp only [LL]); omega)) only [↓GO, ↓DRW, GA, ren, zB, zf, refs, zb, cst, zl, zH, z7, E.load, E.store, zG, isC, bin, zI, zJ, una, z8, za, zh, zK, blt, fnV, asArg, zd, zn, zo, zj, zi, zg, zk, zr, z6, zD, zF, mkS, zc, unN, zM, zm, zy, zC, ze, zN, zq, GS, Int.reduceToNat, Nat.reduceGT, ↓reduceIte, Nat.reduceAdd, Nat.reduceMul, Nat.reduceSub, Nat.reduceEqDiff, Nat.reduceLeDiff, Nat.reduceLT, Nat.reduceBEq, Int.reduceBEq, Int.reduceBNe, Int.reduceEq, Int.reduceLT, Int.reduceLE, Int.reduceGT, Int.reduceNeg, reduceCtorEq, GZ, c]
    rw [e]
  | x :: rest, pre, hs => by
    have c : decide ((pre.length : Int) < (ks.length : Int)) = true := by simp [hs]; omega
    have c0 : decide ((0 : Int) ≤ (pre.length : Int)) = true := by simp
    have hlen : pre.length + rest.length + 1 ≤ ks.length := by rw [hs]; simp; omega
    have hm := rC (k + pre.length) (by omega)
    have IH := bP ks hl cap k hk rest (pre ++ [x]) (by rw [hs]; simp)
    rw [show (pre ++ [x]).length = pre.length + 1 by simp, gV, show y6 (mkS pre.length k ++ [mkT (k + pre.length)]) = y6 (mkS pre.length k) ++ [[.str (mkT (k + pre.length))]] by simp [y6], List.append_assoc, List.cons_append, List.nil_append] at IH
    rw [show k + (pre.length + 1) = k + pre.length + 1 by omega] at IH
    have w : IntKind.i64.wrap (((k + pre.length : Nat) : Int) + 1) = ((k + pre.length + 1 : Nat) : Int) := by rw [zx (by omega)]; omega
    have w2 : IntKind.i64.wrap ((pre.length : Int) + 1) = ((pre.length + 1 : Nat) : Int) := by rw [zx (by omega)]; omega
    have hAl : (y6 (mkS pre.length k)).length = pre.length := by rw [zR, vo]
    rw [show y6 (x :: rest) = [.str x] :: y6 rest from rfl]
    have hg1 := fun y => qp (y6 (mkS pre.length k)) (y6 rest) y pre.length hAl
    have hs1 := fun y z => qo (y6 (mkS pre.length k)) (y6 rest) y z pre.length hAl
    clear hs
    generalize y6 (mkS pre.length k) = A at *
    generalize mkT (k + pre.length) = mt at *
    generalize k + pre.length = kp at *
    refine zz Tryz.func17 rfl rfl ?_
    simp (disch := ((try simp only [LL]); omega)) only [↓GO, ↓DRW, GA, ren, zB, zf, refs, zb, cst, zl, zH, z7, E.load, E.store, zG, isC, bin, zI, zJ, una, z8, za, zh, zK, blt, fnV, asArg, zd, zn, zo, zj, zi, zg, zk, zr, z6, zD, zF, mkS, zc, unN, zM, zm, zy, zC, ze, zN, zq, GS, Int.reduceToNat, Nat.reduceGT, ↓reduceIte, Nat.reduceAdd, Nat.reduceMul, Nat.reduceSub, Nat.reduceEqDiff, Nat.reduceLeDiff, Nat.reduceLT, Nat.reduceBEq, Int.reduceBEq, Int.reduceBNe, Int.reduceEq, Int.reduceLT, Int.reduceLE, Int.reduceGT, Int.reduceNeg, reduceCtorEq, GZ, c, c0, if_true, Int.toNat_natCast, hm, hg1, hs1, w, w2, IH]
theorem jC (ks : List Str) (hl : ks.length ≤ 134217728) (cap : Option Nat) (k : Nat) (hk : k ≤ 1073741824) (n : Nat) (hn : n = ks.length) :
    EV Tryz.prog pol (.callO false 17 [.sl 0 0 n cap, .t (.int .i64 (k : Int))] [.ts 1 (y6 ks)]) = some (.call (.t (.int .i64 ((k + ks.length : Nat) : Int))) [.ts 1 (y6 (mkS ks.length k))]) := by
  subst hn
  have L := bP ks hl cap k hk ks [] rfl
  simp only [List.length_nil, Int.natCast_zero, mkS, lf, List.nil_append, Nat.add_zero] at L
  refine yK Tryz.func17 rfl (by kernel_rfl) ?_
  unfold Tryz.f17
  simp (disch := ((try simp only [LL]); omega)) only [↓GO, ↓DRW, GA, ren, zB, zf, refs, zb, cst, zl, zH, z7, E.load, E.store, zG, isC, bin, zI, zJ, una, z8, za, zh, zK, blt, fnV, asArg, zd, zn, zo, zj, zi, zg, zk, zr, z6, zD, zF, mkS, zc, unN, zM, zm, zy, zC, ze, zN, zq, GS, Int.reduceToNat, Nat.reduceGT, ↓reduceIte, Nat.reduceAdd, Nat.reduceMul, Nat.reduceSub, Nat.reduceEqDiff, Nat.reduceLeDiff, Nat.reduceLT, Nat.reduceBEq, Int.reduceBEq, Int.reduceBNe, Int.reduceEq, Int.reduceLT, Int.reduceLE, Int.reduceGT, Int.reduceNeg, reduceCtorEq, GZ, L]
end Go.Proofs.YtmcephnfcciloaaGreatDoor
/- Marks in trees. Conditions: those of each lemma. -/
namespace Go.Proofs.YtmcephnfcciloaaGreatDoor
open E
set_option linter.unusedSimpArgs false
set_option linter.unusedVariables false
set_option maxRecDepth 100000
end Go.Proofs.YtmcephnfcciloaaGreatDoor
/- Marks in trees, all; marks found again. Conditions: those of each lemma. -/
namespace Go.Proofs.YtmcephnfcciloaaGreatDoor
open E
set_option linter.unusedSimpArgs false
set_option linter.unusedVariables false
set_option maxRecDepth 100000
theorem bU (ks : List Str) (hl : ks.length ≤ 134217728) (k : Nat) (hk : k ≤ 1073741824) : ∀ (n i : Nat), i + n = ks.length → ks = mkS ks.length k →
    EV Tryz.prog pol (.loop 18 26 0 [.t (.list 1 (y6 ks)), .t (.int .i64 ((k + i : Nat) : Int)), .t (.int .i64 (i : Int))] []) = some (.loop (.exit 0) [.t (.int .i64 ((k + ks.length : Nat) : Int)), .bad] [])
  | 0, i, hi, hm => by
    have c : decide ((i : Int) < (ks.length : Int)) = false := by apply decide_eq_false; omega
    have e : i = ks.length := by omega
    refine zz Tryz.func18 rfl rfl ?_
    simp (disch := ((try simp only [LL]); omega)) only [↓GO, ↓DRW, GA, ren, zB, zf, refs, zb, cst, zl, zH, z7, E.load, E.store, zG, isC, bin, zI, zJ, una, z8, za, zh, zK, blt, fnV, asArg, zd, zn, zo, zj, zi, zg, zk, zr, z6, zD, zF, mkS, zc, unN, zM, zm, zy, zC, ze, zN, zq, GS, Int.reduceToNat, Nat.reduceGT, ↓reduceIte, Nat.reduceAdd, Nat.reduceMul, Nat.reduceSub, Nat.reduceEqDiff, Nat.reduceLeDiff, Nat.reduceLT, Nat.reduceBEq, Int.reduceBEq, Int.reduceBNe, Int.reduceEq, Int.reduceLT, Int.reduceLE, Int.reduceGT, Int.reduceNeg, reduceCtorEq, GZ, c, zR]
    rw [e]
  | n + 1, i, hi, hm => by
    have c : decide ((i : Int) < (ks.length : Int)) = true := by apply decide_eq_true; omega
    have hg : ∀ (m j q : Nat), j < m → (mkS m q)[j]? = some (mkT (q + j)) := fun m => by
      induction m with
      | zero => intro j q h; omega
      | succ m ih =>
        intro j q h
        cases j with
        | zero => rfl
        | succ j => rw [mkS, List.getElem?_cons_succ, ih j (q + 1) (by omega), show q + 1 + j = q + (j + 1) by omega]
    have hget : (y6 ks)[i]? = some [.str (mkT (k + i))] := by
      have := hg ks.length i k (by omega)
      rw [hm]
      simp only [y6, List.getElem?_map, vo, this, Option.map_some]
    have hmt := rC (k + i) (by omega)
    have IH := bU ks hl k hk n (i + 1) (by omega) hm
    have w : IntKind.i64.wrap (((k + i : Nat) : Int) + 1) = ((k + (i + 1) : Nat) : Int) := by rw [zx (by omega)]; omega
    have w2 : IntKind.i64.wrap ((i : Int) + 1) = ((i + 1 : Nat) : Int) := by rw [zx (by omega)]; omega
    clear hm
    generalize mkT (k + i) = mt at *
    refine zz Tryz.func18 rfl rfl ?_
    simp (disch := ((try simp only [LL]); omega)) only [↓GO, ↓DRW, GA, ren, zB, zf, refs, zb, cst, zl, zH, z7, E.load, E.store, zG, isC, bin, zI, zJ, una, z8, za, zh, zK, blt, fnV, asArg, zd, zn, zo, zj, zi, zg, zk, zr, z6, zD, zF, mkS, zc, unN, zM, zm, zy, zC, ze, zN, zq, GS, Int.reduceToNat, Nat.reduceGT, ↓reduceIte, Nat.reduceAdd, Nat.reduceMul, Nat.reduceSub, Nat.reduceEqDiff, Nat.reduceLeDiff, Nat.reduceLT, Nat.reduceBEq, Int.reduceBEq, Int.reduceBNe, Int.reduceEq, Int.reduceLT, Int.reduceLE, Int.reduceGT, Int.reduceNeg, reduceCtorEq, GZ, c, zR, hget, hmt, w, w2, IH, bne_self_eq_false]
theorem aH (n k : Nat) (hn : n ≤ 134217728) (hk : k ≤ 1073741824) : zE (EV Tryz.prog pol) 18 [.t (.list 1 (y6 (mkS n k))), .t (.int .i64 (k : Int))] = some (.t (.int .i64 ((k + n : Nat) : Int))) := by
  have L := bU (mkS n k) (by rw [vo]; exact hn) k hk n 0 (by rw [vo]; omega) (by rw [vo])
  rw [vo] at L
  simp only [Int.natCast_zero, Nat.add_zero] at L
  apply zu
  refine zw rfl Tryz.func18 rfl (by kernel_rfl) ?_
  unfold Tryz.f18
  simp (disch := ((try simp only [LL]); omega)) only [↓GO, ↓DRW, GA, ren, zB, zf, refs, zb, cst, zl, zH, z7, E.load, E.store, zG, isC, bin, zI, zJ, una, z8, za, zh, zK, blt, fnV, asArg, zd, zn, zo, zj, zi, zg, zk, zr, z6, zD, zF, mkS, zc, unN, zM, zm, zy, zC, ze, zN, zq, GS, Int.reduceToNat, Nat.reduceGT, ↓reduceIte, Nat.reduceAdd, Nat.reduceMul, Nat.reduceSub, Nat.reduceEqDiff, Nat.reduceLeDiff, Nat.reduceLT, Nat.reduceBEq, Int.reduceBEq, Int.reduceBNe, Int.reduceEq, Int.reduceLT, Int.reduceLE, Int.reduceGT, Int.reduceNeg, reduceCtorEq, GZ, L]
end Go.Proofs.YtmcephnfcciloaaGreatDoor
/- Trees copied, by both. Conditions: those of each lemma. -/
namespace Go.Proofs.YtmcephnfcciloaaGreatDoor
open E
set_option linter.unusedSimpArgs false
set_option linter.unusedVariables false
set_option maxRecDepth 100000
theorem yQ {α : Type} {b : Bool} {x y r : Option α} (h : b = true) (hx : x = r) : (if b = true then x else y) = r := by rw [h]; exact hx
end Go.Proofs.YtmcephnfcciloaaGreatDoor
/- Trees copied by the implementation: their memory is their own; what stands under a key, by both. Conditions: those of each lemma. -/
namespace Go.Proofs.YtmcephnfcciloaaGreatDoor
open E
set_option linter.unusedSimpArgs false
set_option linter.unusedVariables false
set_option maxRecDepth 100000
end Go.Proofs.YtmcephnfcciloaaGreatDoor
/- What stands under a key, by both. Conditions: those of each lemma. -/
namespace Go.Proofs.YtmcephnfcciloaaGreatDoor
open E
set_option linter.unusedSimpArgs false
set_option linter.unusedVariables false
set_option maxRecDepth 100000
theorem XG (k : Int) : EV Tryz.prog pol (.callO false 17 [.nil 1, .t (.int .i64 k)] []) = some (.call (.t (.int .i64 k)) []) := by
  have L : EV Tryz.prog pol (.loop 17 26 0 [.nil 1, .t (.int .i64 k), .t (.int .i64 0)] []) = some (.loop (.exit 0) [.t (.int .i64 k)] []) := by
    refine zz Tryz.func17 rfl rfl ?_
    simp (disch := ((try simp only [LL]); omega)) only [↓GO, ↓DRW, GA, ren, zB, zf, refs, zb, cst, zl, zH, z7, E.load, E.store, zG, isC, bin, zI, zJ, una, z8, za, zh, zK, blt, fnV, asArg, zd, zn, zo, zj, zi, zg, zk, zr, z6, zD, zF, mkS, zc, unN, zM, zm, zy, zC, ze, zN, zq, GS, Int.reduceToNat, Nat.reduceGT, ↓reduceIte, Nat.reduceAdd, Nat.reduceMul, Nat.reduceSub, Nat.reduceEqDiff, Nat.reduceLeDiff, Nat.reduceLT, Nat.reduceBEq, Int.reduceBEq, Int.reduceBNe, Int.reduceEq, Int.reduceLT, Int.reduceLE, Int.reduceGT, Int.reduceNeg, reduceCtorEq, GZ, Int.natCast_zero]
  refine yK Tryz.func17 rfl (by kernel_rfl) ?_
  unfold Tryz.f17
  simp (disch := ((try simp only [LL]); omega)) only [↓GO, ↓DRW, GA, ren, zB, zf, refs, zb, cst, zl, zH, z7, E.load, E.store, zG, isC, bin, zI, zJ, una, z8, za, zh, zK, blt, fnV, asArg, zd, zn, zo, zj, zi, zg, zk, zr, z6, zD, zF, mkS, zc, unN, zM, zm, zy, zC, ze, zN, zq, GS, Int.reduceToNat, Nat.reduceGT, ↓reduceIte, Nat.reduceAdd, Nat.reduceMul, Nat.reduceSub, Nat.reduceEqDiff, Nat.reduceLeDiff, Nat.reduceLT, Nat.reduceBEq, Int.reduceBEq, Int.reduceBNe, Int.reduceEq, Int.reduceLT, Int.reduceLE, Int.reduceGT, Int.reduceNeg, reduceCtorEq, GZ, L]
end Go.Proofs.YtmcephnfcciloaaGreatDoor
/- Graphs laid anew, with memory of their own. Conditions: those of each lemma. -/
namespace Go.Proofs.YtmcephnfcciloaaGreatDoor
open E
set_option linter.unusedSimpArgs false
set_option linter.unusedVariables false
set_option maxRecDepth 100000
theorem uS : ∀ l : List zZ, qD (zZ.zV l) = true
  | [] => rfl
  | x :: l => by
    have := uS l
    unfold qD zZ.zV at this ⊢
    rw [List.map_cons, List.all_cons, this]; rfl
theorem eV (a : List zL) (x : zL) : zL.zV (a ++ [x]) = zL.zV a ++ [x.enc] := by simp [zL.zV]
theorem Zb (a b : List zL) : zL.zV (a ++ b) = zL.zV a ++ zL.zV b := by simp [zL.zV]
def zPk : List V := [.t (.str []), .t (.str []), .t (.str []), .nil 2, .t (.bool false), .nil 1]
theorem Xz (cs : List zZ) (hl : cs.length ≤ 1048576) (hc : ∀ c ∈ cs, eE c) : EV Tryz.prog pol (.callO false 90 [.t (.list 2 (zZ.zV cs))] []) = some (.call (.sl 0 0 cs.length (some cs.length)) [.ts 2 (zZ.zV cs)]) := by
  refine yK Tryz.func90 rfl (by kernel_rfl) ?_
  unfold Tryz.f90
  have h1 : ¬ ((cs.length : Int) < 0) := by omega
  have h2 : ¬ (cs.length * 32 > 140737488355328) := by omega
  have h3 : ¬ (cs.length > 140737488355328) := by omega
  have hz : List.replicate cs.length [T.str [], .str []] = wj (zZ.zV cs) YQ 0 := by rw [uT, zZ.zT]; rfl
  have IH := gZ cs hl hc cs.length 0 (by omega) (by omega)
  simp only [Int.natCast_zero] at IH
  simp (disch := omega) only [E.mkS, ↓GO, ↓DRW, GA, ren, zB, zf, refs, zb, cst, zl, zH, z7, E.load, E.store, zG, isC, bin, zI, zJ, una, z8, za, zh, zK, blt, fnV, asArg, zd, zn, zo, zj, zi, zg, zk, zr, z6, zD, zF, mkS, zc, unN, zM, zm, zy, zC, ze, zN, zq, GS, Int.reduceToNat, Nat.reduceGT, ↓reduceIte, Nat.reduceAdd, Nat.reduceMul, Nat.reduceSub, Nat.reduceEqDiff, Nat.reduceLeDiff, Nat.reduceLT, Nat.reduceBEq, Int.reduceBEq, Int.reduceBNe, Int.reduceEq, Int.reduceLT, Int.reduceLE, Int.reduceGT, Int.reduceNeg, reduceCtorEq, zZ.zT, Int.toNat_natCast, h1, h2, h3, hz, IH, ne_eq, not_true_eq_false]
def Up (x : zL) : Prop := EV Tryz.prog pol (.callO false 61 [.agg (x.enc.map .t)] []) = some (.call (.agg [.t (.str x.name), .t (.str x.version), .t (.str x.source), .sl 0 0 x.sums.length (some x.sums.length), .t (.bool x.dev), .sl 1 0 x.needs.length (some x.needs.length)]) [.ts 2 (zZ.zV x.sums), .ts 1 (y6 x.needs)])
theorem U3 (x : zL) (ho : x.yh ≤ 1048576) : Up x := by
  obtain ⟨name, version, source, sums, dev, needs⟩ := x
  simp only [zL.yh] at ho
  have d1 := Xz sums (by omega) (fun c hc => Ti c (by have := zZ.yp hc; omega))
  have d2 := mA needs (by omega)
  simp only [Up, zL.enc, List.map_cons, List.map_nil]
  refine yK Tryz.func61 rfl (by kernel_rfl) ?_
  unfold Tryz.f61
  simp (disch := ((try simp only [LL]); omega)) only [↓GO, ↓DRW, GA, ren, zB, zf, refs, zb, cst, zl, zH, z7, E.load, E.store, zG, isC, bin, zI, zJ, una, z8, za, zh, zK, blt, fnV, asArg, zd, zn, zo, zj, zi, zg, zk, zr, z6, zD, zF, mkS, zc, unN, zM, zm, zy, zC, ze, zN, zq, GS, Int.reduceToNat, Nat.reduceGT, ↓reduceIte, Nat.reduceAdd, Nat.reduceMul, Nat.reduceSub, Nat.reduceEqDiff, Nat.reduceLeDiff, Nat.reduceLT, Nat.reduceBEq, Int.reduceBEq, Int.reduceBNe, Int.reduceEq, Int.reduceLT, Int.reduceLE, Int.reduceGT, Int.reduceNeg, reduceCtorEq, yO, yP, qz, sX, rG, rF, w7, mkO, tA, tm, v8, qv, yZ, sV, sS, xt, oc, oTs, oT, xf, xf.rowTs, tr, isL, Bool.not_false, Bool.true_and, Bool.and_true, Bool.and_self, List.flatMap_append, List.map_append, List.set_cons_zero, List.set_cons_succ, GZ, d1, d2, zY]
theorem VO (cs : List zL) (hl : cs.length ≤ 1048576) (hc : ∀ c ∈ cs, Up c) : ∀ (rest pre : List zL), cs = pre ++ rest →
    EV Tryz.prog pol (.loop 31 58 0 [.t (.list 6 (zL.zV cs)), .sl 0 0 cs.length (some cs.length), .t (.int .i64 (pre.length : Int))] [.vs 6 (ocE (zL.zV pre) ++ List.replicate rest.length zPk)])
      = some (.loop (.exit 0) [.sl 0 0 cs.length (some cs.length)] [.vs 6 (ocE (zL.zV cs))])
  | [], pre, hs => by
    have c : decide ((pre.length : Int) < (cs.length : Int)) = false := by simp [hs]
    have e : cs = pre := by simpa using hs
    have hA := yX (zL.zV pre)
    have hR := fun m => xx m (zL.zV pre)
    simp only [List.length_nil, List.replicate_zero, List.append_nil]
    refine zz Tryz.func31 rfl rfl ?_
    simp (disch := ((try simp only [LL]); omega)) only [↓GO, ↓DRW, GA, ren, zB, zf, refs, zb, cst, zl, zH, z7, E.load, E.store, zG, isC, bin, zI, zJ, una, z8, za, zh, zK, blt, fnV, asArg, zd, zn, zo, zj, zi, zg, zk, zr, z6, zD, zF, mkS, zc, unN, zM, zm, zy, zC, ze, zN, zq, GS, Int.reduceToNat, Nat.reduceGT, ↓reduceIte, Nat.reduceAdd, Nat.reduceMul, Nat.reduceSub, Nat.reduceEqDiff, Nat.reduceLeDiff, Nat.reduceLT, Nat.reduceBEq, Int.reduceBEq, Int.reduceBNe, Int.reduceEq, Int.reduceLT, Int.reduceLE, Int.reduceGT, Int.reduceNeg, reduceCtorEq, yO, yP, qz, sX, rG, rF, w7, mkO, tA, tm, v8, qv, yZ, sV, sS, xt, oc, oTs, oT, xf, xf.rowTs, tr, isL, Bool.not_false, Bool.true_and, Bool.and_true, Bool.and_self, List.flatMap_append, List.map_append, List.set_cons_zero, List.set_cons_succ, GZ, zL.zT, c, hA, hR]
    rw [e]
  | x :: rest, pre, hs => by
    have c : decide ((pre.length : Int) < (cs.length : Int)) = true := by simp [hs]; omega
    have hget : (zL.zV cs)[pre.length]? = some x.enc := by rw [hs]; simp [zL.zV]
    have hlen : pre.length + rest.length + 1 ≤ cs.length := by rw [hs]; simp; omega
    have hcx := hc x (by rw [hs]; simp)
    have c0 : decide ((0 : Int) ≤ (pre.length : Int)) = true := by simp
    have c00 : (0 : Int) ≤ (pre.length : Int) := by omega
    have IH := VO cs hl hc rest (pre ++ [x]) (by rw [hs]; simp)
    rw [show ((pre ++ [x]).length : Int) = (pre.length : Int) + 1 by simp, eV, bx, tO, bw, List.append_assoc, List.cons_append, List.nil_append] at IH
    have hAl : (ocE (zL.zV pre)).length = pre.length := by rw [qn, zL.zT]
    have hA := yX (zL.zV pre)
    have hR := fun m => xx m (zL.zV pre)
    have hB := nZ zPk rfl rest.length
    have hRB := fun m => ba m zPk rfl rest.length
    rw [List.length_cons, List.replicate_succ]
    have hg1 := fun y => qp (ocE (zL.zV pre)) (List.replicate rest.length zPk) y pre.length hAl
    have hs1 := fun y z => qo (ocE (zL.zV pre)) (List.replicate rest.length zPk) y z pre.length hAl
    clear hs
    obtain ⟨name, version, source, sums, dev, needs⟩ := x
    have hf1 := uS sums
    have hf2 := vD needs
    simp only [Up, zL.enc, List.map_cons, List.map_nil, oc] at hcx hget IH
    generalize ocE (zL.zV pre) = A at *
    generalize List.replicate rest.length zPk = B at *
    unfold zPk
    refine zz Tryz.func31 rfl rfl ?_
    simp (disch := ((try simp only [LL]); omega)) only [↓GO, ↓DRW, GA, ren, zB, zf, refs, zb, cst, zl, zH, z7, E.load, E.store, zG, isC, bin, zI, zJ, una, z8, za, zh, zK, blt, fnV, asArg, zd, zn, zo, zj, zi, zg, zk, zr, z6, zD, zF, mkS, zc, unN, zM, zm, zy, zC, ze, zN, zq, GS, Int.reduceToNat, Nat.reduceGT, ↓reduceIte, Nat.reduceAdd, Nat.reduceMul, Nat.reduceSub, Nat.reduceEqDiff, Nat.reduceLeDiff, Nat.reduceLT, Nat.reduceBEq, Int.reduceBEq, Int.reduceBNe, Int.reduceEq, Int.reduceLT, Int.reduceLE, Int.reduceGT, Int.reduceNeg, reduceCtorEq, yO, yP, qz, sX, rG, rF, w7, mkO, tA, tm, v8, qv, yZ, sV, sS, xt, oc, oTs, oT, xf, xf.rowTs, tr, isL, Bool.not_false, Bool.true_and, Bool.and_true, Bool.and_self, List.flatMap_append, List.map_append, List.set_cons_zero, List.set_cons_succ, GZ, zL.zT, zZ.zT, c, c0, c00, if_true, Int.toNat_natCast, hget, hcx, hg1, hs1, hA, hR, hB, hRB, zx, hf1, hf2, IH, zR, qn, xx, yX, zY]
theorem nJ (cs : List zL) (hl : cs.length ≤ 1048576) (hc : ∀ c ∈ cs, Up c) : EV Tryz.prog pol (.callO false 31 [.t (.list 6 (zL.zV cs))] []) = some (.call (.sl 0 0 cs.length (some cs.length)) [.vs 6 (ocE (zL.zV cs))]) := by
  refine yK Tryz.func31 rfl (by kernel_rfl) ?_
  unfold Tryz.f31
  have h1 : ¬ ((cs.length : Int) < 0) := by omega
  have h2 : ¬ (cs.length * 104 > 140737488355328) := by omega
  have h3 : ¬ (cs.length > 140737488355328) := by omega
  have L := VO cs hl hc cs [] rfl
  simp only [List.length_nil, Int.natCast_zero, show zL.zV [] = [] from rfl, bw, List.nil_append] at L
  have hB := nZ zPk rfl cs.length
  have hRB := fun m => ba m zPk rfl cs.length
  unfold zPk at L hB hRB
  simp (disch := ((try simp only [LL]); omega)) only [↓GO, ↓DRW, GA, ren, zB, zf, refs, zb, cst, zl, zH, z7, E.load, E.store, zG, isC, bin, zI, zJ, una, z8, za, zh, zK, blt, fnV, asArg, zd, zn, zo, zj, zi, zg, zk, zr, z6, zD, zF, mkS, zc, unN, zM, zm, zy, zC, ze, zN, zq, GS, Int.reduceToNat, Nat.reduceGT, ↓reduceIte, Nat.reduceAdd, Nat.reduceMul, Nat.reduceSub, Nat.reduceEqDiff, Nat.reduceLeDiff, Nat.reduceLT, Nat.reduceBEq, Int.reduceBEq, Int.reduceBNe, Int.reduceEq, Int.reduceLT, Int.reduceLE, Int.reduceGT, Int.reduceNeg, reduceCtorEq, yO, yP, qz, sX, rG, rF, w7, mkO, tA, tm, v8, qv, yZ, sV, sS, xt, oc, oTs, oT, xf, xf.rowTs, tr, isL, Bool.not_false, Bool.true_and, Bool.and_true, Bool.and_self, List.flatMap_append, List.map_append, List.set_cons_zero, List.set_cons_succ, GZ, zL.zT, Int.toNat_natCast, h1, h2, h3, L, hB, hRB, xx, yX, ne_eq, not_true_eq_false, not_false_eq_true, zY]
def Kk (x : zU) : Prop := EV Tryz.prog pol (.callO false 9 [.agg (x.enc.map .t)] []) = some (.call (.agg [.sl 0 0 x.top.length (some x.top.length), .sl 1 0 x.packs.length (some x.packs.length)]) [.ts 1 (y6 x.top), .vs 6 (ocE (zL.zV x.packs))])
theorem SH (x : zU) (ho : x.yh ≤ 1048576) : Kk x := by
  obtain ⟨top, packs⟩ := x
  simp only [zU.yh] at ho
  have d1 := mA top (by omega)
  have d2 := nJ packs (by omega) (fun c hc => U3 c (by have := zL.yp hc; omega))
  simp only [Kk, zU.enc, List.map_cons, List.map_nil]
  refine yK Tryz.func9 rfl (by kernel_rfl) ?_
  unfold Tryz.f9
  simp (disch := ((try simp only [LL]); omega)) only [↓GO, ↓DRW, GA, ren, zB, zf, refs, zb, cst, zl, zH, z7, E.load, E.store, zG, isC, bin, zI, zJ, una, z8, za, zh, zK, blt, fnV, asArg, zd, zn, zo, zj, zi, zg, zk, zr, z6, zD, zF, mkS, zc, unN, zM, zm, zy, zC, ze, zN, zq, GS, Int.reduceToNat, Nat.reduceGT, ↓reduceIte, Nat.reduceAdd, Nat.reduceMul, Nat.reduceSub, Nat.reduceEqDiff, Nat.reduceLeDiff, Nat.reduceLT, Nat.reduceBEq, Int.reduceBEq, Int.reduceBNe, Int.reduceEq, Int.reduceLT, Int.reduceLE, Int.reduceGT, Int.reduceNeg, reduceCtorEq, yO, yP, qz, sX, rG, rF, w7, mkO, tA, tm, v8, qv, yZ, sV, sS, xt, oc, oTs, oT, xf, xf.rowTs, tr, isL, Bool.not_false, Bool.true_and, Bool.and_true, Bool.and_self, List.flatMap_append, List.map_append, List.set_cons_zero, List.set_cons_succ, GZ, d1, d2, xx, yX, zY]
/-- and as a value that nobody writes -/
def Kl (x : zU) : Prop := zE (EV Tryz.prog pol) 9 [.agg (x.enc.map .t)] = some (.agg (x.enc.map .t))
theorem SI (x : zU) (ho : x.yh ≤ 1048576) : Kl x := by
  obtain ⟨top, packs⟩ := x
  simp only [zU.yh] at ho
  have d1 := mA top (by omega)
  have d2 := nJ packs (by omega) (fun c hc => U3 c (by have := zL.yp hc; omega))
  have g := U0 (zL.zV packs)
  have ht : (zL.zV packs).take packs.length = zL.zV packs := by rw [← zL.zT packs]; simp
  have ht2 : (y6 top).take top.length = y6 top := by rw [← zR top]; simp
  simp only [Kl, zU.enc, List.map_cons, List.map_nil]
  apply zu
  refine zw rfl Tryz.func9 rfl (by kernel_rfl) ?_
  unfold Tryz.f9
  simp (disch := ((try simp only [LL]); omega)) only [↓GO, ↓DRW, GA, ren, zB, zf, refs, zb, cst, zl, zH, z7, E.load, E.store, zG, isC, bin, zI, zJ, una, z8, za, zh, zK, blt, fnV, asArg, zd, zn, zo, zj, zi, zg, zk, zr, z6, zD, zF, mkS, zc, unN, zM, zm, zy, zC, ze, zN, zq, GS, Int.reduceToNat, Nat.reduceGT, ↓reduceIte, Nat.reduceAdd, Nat.reduceMul, Nat.reduceSub, Nat.reduceEqDiff, Nat.reduceLeDiff, Nat.reduceLT, Nat.reduceBEq, Int.reduceBEq, Int.reduceBNe, Int.reduceEq, Int.reduceLT, Int.reduceLE, Int.reduceGT, Int.reduceNeg, reduceCtorEq, yO, yP, qz, sX, rG, rF, w7, mkO, tA, tm, v8, qv, yZ, sV, sS, xt, oc, oTs, oT, xf, xf.rowTs, tr, isL, Bool.not_false, Bool.true_and, Bool.and_true, Bool.and_self, List.flatMap_append, List.map_append, List.set_cons_zero, List.set_cons_succ, GZ, d1, d2, g, ht, ht2, xx, yX, zY]
end Go.Proofs.YtmcephnfcciloaaGreatDoor
/- Marks in graphs. Conditions: those of each lemma. -/
namespace Go.Proofs.YtmcephnfcciloaaGreatDoor
open E
set_option linter.unusedSimpArgs false
set_option linter.unusedVariables false
set_option maxRecDepth 100000
def tk : Nat → Nat → List zZ
  | 0, _ => []
  | n + 1, k => ⟨mkT k, mkT (k + 1)⟩ :: tk n (k + 2)
theorem mj : ∀ n k, (tk n k).length = n
  | 0, _ => rfl
  | n + 1, k => by rw [tk, List.length_cons, mj n (k + 2)]
theorem lJ : ∀ n k, tk (n + 1) k = tk n k ++ [⟨mkT (k + 2 * n), mkT (k + 2 * n + 1)⟩]
  | 0, k => rfl
  | n + 1, k => by
    rw [tk, lJ n (k + 2), tk, List.cons_append, show k + 2 + 2 * n = k + 2 * (n + 1) by omega]
theorem ff (cs : List zZ) (hl : cs.length ≤ 4194304) (cap : Option Nat) (k : Nat) (hk : k ≤ 1073741824) : ∀ (rest pre : List zZ), cs = pre ++ rest →
    EV Tryz.prog pol (.loop 68 26 1 [.sl 0 0 cs.length cap, .t (.int .i64 ((k + 2 * pre.length : Nat) : Int)), .t (.int .i64 (pre.length : Int))] [.ts 2 (zZ.zV (tk pre.length k) ++ zZ.zV rest)])
      = some (.loop (.exit 0) [.t (.int .i64 ((k + 2 * cs.length : Nat) : Int))] [.ts 2 (zZ.zV (tk cs.length k))])
  | [], pre, hs => by
    have c : decide ((pre.length : Int) < (cs.length : Int)) = false := by simp [hs]
    have e : cs = pre := by simpa using hs
    simp only [show zZ.zV [] = [] from rfl, List.append_nil]
    refine zz Tryz.func68 rfl rfl ?_
    simp (disch := ((try simp only [LL]); omega)) only [↓GO, ↓DRW, GA, ren, zB, zf, refs, zb, cst, zl, zH, z7, E.load, E.store, zG, isC, bin, zI, zJ, una, z8, za, zh, zK, blt, fnV, asArg, zd, zn, zo, zj, zi, zg, zk, zr, z6, zD, zF, mkS, zc, unN, zM, zm, zy, zC, ze, zN, zq, GS, Int.reduceToNat, Nat.reduceGT, ↓reduceIte, Nat.reduceAdd, Nat.reduceMul, Nat.reduceSub, Nat.reduceEqDiff, Nat.reduceLeDiff, Nat.reduceLT, Nat.reduceBEq, Int.reduceBEq, Int.reduceBNe, Int.reduceEq, Int.reduceLT, Int.reduceLE, Int.reduceGT, Int.reduceNeg, reduceCtorEq, GZ, c]
    rw [e]
  | x :: rest, pre, hs => by
    have c : decide ((pre.length : Int) < (cs.length : Int)) = true := by simp [hs]; omega
    have c0 : decide ((0 : Int) ≤ (pre.length : Int)) = true := by simp
    have c00 : (0 : Int) ≤ (pre.length : Int) := by omega
    have hlen : pre.length + rest.length + 1 ≤ cs.length := by rw [hs]; simp; omega
    have hm := rC (k + 2 * pre.length) (by omega)
    have hm2 := rC (k + 2 * pre.length + 1) (by omega)
    have IH := ff cs hl cap k hk rest (pre ++ [x]) (by rw [hs]; simp)
    rw [show (pre ++ [x]).length = pre.length + 1 by simp, lJ, show zZ.zV (tk pre.length k ++ [⟨mkT (k + 2 * pre.length), mkT (k + 2 * pre.length + 1)⟩]) = zZ.zV (tk pre.length k) ++ [[.str (mkT (k + 2 * pre.length)), .str (mkT (k + 2 * pre.length + 1))]] by simp [zZ.zV, zZ.enc], List.append_assoc, List.cons_append, List.nil_append] at IH
    rw [show k + 2 * (pre.length + 1) = k + 2 * pre.length + 2 by omega] at IH
    have hAl : (zZ.zV (tk pre.length k)).length = pre.length := by rw [zZ.zT, mj]
    rw [show zZ.zV (x :: rest) = [.str x.alg, .str x.bytes] :: zZ.zV rest from rfl]
    have hg1 := fun y => qp (zZ.zV (tk pre.length k)) (zZ.zV rest) y pre.length hAl
    have hs1 := fun y z => qo (zZ.zV (tk pre.length k)) (zZ.zV rest) y z pre.length hAl
    clear hs
    generalize zZ.zV (tk pre.length k) = A at *
    generalize mkT (k + 2 * pre.length + 1) = mt2 at *
    generalize mkT (k + 2 * pre.length) = mt at *
    have hkp : k + 2 * pre.length ≤ 1082130432 := by omega
    generalize k + 2 * pre.length = kp at *
    have w : IntKind.i64.wrap ((kp : Int) + 1) = ((kp + 1 : Nat) : Int) := by rw [zx (by omega)]; omega
    have w1 : IntKind.i64.wrap (((kp + 1 : Nat) : Int) + 1) = ((kp + 2 : Nat) : Int) := by rw [zx (by omega)]; omega
    have w2 : IntKind.i64.wrap ((pre.length : Int) + 1) = ((pre.length + 1 : Nat) : Int) := by rw [zx (by omega)]; omega
    refine zz Tryz.func68 rfl rfl ?_
    simp (disch := ((try simp only [LL]); omega)) only [↓GO, ↓DRW, GA, ren, zB, zf, refs, zb, cst, zl, zH, z7, E.load, E.store, zG, isC, bin, zI, zJ, una, z8, za, zh, zK, blt, fnV, asArg, zd, zn, zo, zj, zi, zg, zk, zr, z6, zD, zF, mkS, zc, unN, zM, zm, zy, zC, ze, zN, zq, GS, Int.reduceToNat, Nat.reduceGT, ↓reduceIte, Nat.reduceAdd, Nat.reduceMul, Nat.reduceSub, Nat.reduceEqDiff, Nat.reduceLeDiff, Nat.reduceLT, Nat.reduceBEq, Int.reduceBEq, Int.reduceBNe, Int.reduceEq, Int.reduceLT, Int.reduceLE, Int.reduceGT, Int.reduceNeg, reduceCtorEq, GZ, c, c0, c00, if_true, Int.toNat_natCast, hm, hm2, hg1, hs1, w, w1, w2, IH]
theorem XH (cs : List zZ) (hl : cs.length ≤ 4194304) (cap : Option Nat) (k : Nat) (hk : k ≤ 1073741824) (n : Nat) (hn : n = cs.length) :
    EV Tryz.prog pol (.callO false 68 [.sl 0 0 n cap, .t (.int .i64 (k : Int))] [.ts 2 (zZ.zV cs)]) = some (.call (.t (.int .i64 ((k + 2 * cs.length : Nat) : Int))) [.ts 2 (zZ.zV (tk cs.length k))]) := by
  subst hn
  have L := ff cs hl cap k hk cs [] rfl
  simp only [List.length_nil, Int.natCast_zero, tk, show zZ.zV [] = [] from rfl, List.nil_append, Nat.mul_zero, Nat.add_zero] at L
  refine yK Tryz.func68 rfl (by kernel_rfl) ?_
  unfold Tryz.f68
  simp (disch := ((try simp only [LL]); omega)) only [↓GO, ↓DRW, GA, ren, zB, zf, refs, zb, cst, zl, zH, z7, E.load, E.store, zG, isC, bin, zI, zJ, una, z8, za, zh, zK, blt, fnV, asArg, zd, zn, zo, zj, zi, zg, zk, zr, z6, zD, zF, mkS, zc, unN, zM, zm, zy, zC, ze, zN, zq, GS, Int.reduceToNat, Nat.reduceGT, ↓reduceIte, Nat.reduceAdd, Nat.reduceMul, Nat.reduceSub, Nat.reduceEqDiff, Nat.reduceLeDiff, Nat.reduceLT, Nat.reduceBEq, Int.reduceBEq, Int.reduceBNe, Int.reduceEq, Int.reduceLT, Int.reduceLE, Int.reduceGT, Int.reduceNeg, reduceCtorEq, GZ, L]
end Go.Proofs.YtmcephnfcciloaaGreatDoor
/- Marks in packs and graphs. Conditions: those of each lemma. -/
namespace Go.Proofs.YtmcephnfcciloaaGreatDoor
open E
set_option linter.unusedSimpArgs false
set_option linter.unusedVariables false
set_option maxRecDepth 100000
def dvB (k : Nat) : Bool := (((k % 3 : Nat) : Int) == 0)
def l9 (x : zL) : Nat := 4 + 2 * x.sums.length + x.needs.length
def yJ : List zL → Nat
  | [] => 0
  | x :: r => l9 x + yJ r
def Un (k : Nat) (x : zL) : zL := ⟨mkT k, mkT (k + 1), mkT (k + 2), tk x.sums.length (k + 3), dvB (k + 3 + 2 * x.sums.length), mkS x.needs.length (k + 3 + 2 * x.sums.length + 1)⟩
def xD : Nat → List zL → List zL
  | _, [] => []
  | k, x :: r => Un k x :: xD (k + l9 x) r
theorem lL : ∀ (k : Nat) (cs : List zL), (xD k cs).length = cs.length
  | k, [] => rfl
  | k, c :: cs => by simp [xD, lL _ cs]
theorem qW : ∀ a b : List zL, yJ (a ++ b) = yJ a + yJ b
  | [], b => by simp [yJ]
  | c :: a, b => by simp only [List.cons_append, yJ, qW a b]; omega
theorem lM : ∀ (k : Nat) (a b : List zL), xD k (a ++ b) = xD k a ++ xD (k + yJ a) b
  | k, [], b => by simp [xD, yJ]
  | k, c :: a, b => by
    simp only [List.cons_append, xD, yJ, lM _ a b]
    rw [show k + l9 c + yJ a = k + (l9 c + yJ a) by omega]
theorem Tc (x : zL) : l9 x ≤ 4 + 2 * x.yh := by simp only [l9, zL.yh]; omega
theorem eg : ∀ cs : List zL, yJ cs ≤ 4 * cs.length + 2 * zL.ya cs
  | [] => by simp [yJ]
  | c :: cs => by
    have h1 := Tc c
    have h2 := eg cs
    simp only [yJ, zL.ya, List.length_cons]; omega
theorem bQ (cs : List zL) (hl : cs.length ≤ 4194304) (hb : ∀ c ∈ cs, c.yh ≤ 4194304) (cap : Option Nat) (k : Nat) (hk : k + yJ cs ≤ 1073741824) : ∀ (rest pre : List zL), cs = pre ++ rest →
    EV Tryz.prog pol (.loop 38 26 1 [.sl 0 0 cs.length cap, .t (.int .i64 ((k + yJ pre : Nat) : Int)), .t (.int .i64 (pre.length : Int))] [.vs 6 (ocE (zL.zV (xD k pre)) ++ ocE (zL.zV rest))])
      = some (.loop (.exit 0) [.t (.int .i64 ((k + yJ cs : Nat) : Int))] [.vs 6 (ocE (zL.zV (xD k cs)))])
  | [], pre, hs => by
    have c : decide ((pre.length : Int) < (cs.length : Int)) = false := by simp [hs]
    have e : cs = pre := by simpa using hs
    have hA := yX (zL.zV (xD k pre))
    have hR := fun m => xx m (zL.zV (xD k pre))
    simp only [show ocE (zL.zV []) = [] from rfl, List.append_nil]
    refine zz Tryz.func38 rfl rfl ?_
    simp (disch := ((try simp only [LL]); omega)) only [↓GO, ↓DRW, GA, ren, zB, zf, refs, zb, cst, zl, zH, z7, E.load, E.store, zG, isC, bin, zI, zJ, una, z8, za, zh, zK, blt, fnV, asArg, zd, zn, zo, zj, zi, zg, zk, zr, z6, zD, zF, mkS, zc, unN, zM, zm, zy, zC, ze, zN, zq, GS, Int.reduceToNat, Nat.reduceGT, ↓reduceIte, Nat.reduceAdd, Nat.reduceMul, Nat.reduceSub, Nat.reduceEqDiff, Nat.reduceLeDiff, Nat.reduceLT, Nat.reduceBEq, Int.reduceBEq, Int.reduceBNe, Int.reduceEq, Int.reduceLT, Int.reduceLE, Int.reduceGT, Int.reduceNeg, reduceCtorEq, yO, yP, qz, sX, rG, rF, w7, mkO, tA, tm, v8, qv, yZ, sV, sS, xt, oc, oTs, oT, xf, xf.rowTs, tr, isL, Bool.not_false, Bool.true_and, Bool.and_true, Bool.and_self, List.flatMap_append, List.map_append, List.set_cons_zero, List.set_cons_succ, GZ, c, hA, hR]
    rw [e]
  | x :: rest, pre, hs => by
    have c : decide ((pre.length : Int) < (cs.length : Int)) = true := by simp [hs]; omega
    have c0 : decide ((0 : Int) ≤ (pre.length : Int)) = true := by simp
    have c00 : (0 : Int) ≤ (pre.length : Int) := by omega
    have hlen : pre.length + rest.length + 1 ≤ cs.length := by rw [hs]; simp; omega
    have hcn : yJ cs = yJ pre + yJ (x :: rest) := by rw [hs, qW]
    have hbx := hb x (by rw [hs]; simp)
    have IH := bQ cs hl hb cap k hk rest (pre ++ [x]) (by rw [hs]; simp)
    have e1 : xD k (pre ++ [x]) = xD k pre ++ [Un (k + yJ pre) x] := by rw [lM]; simp [xD]
    have e2 : yJ (pre ++ [x]) = yJ pre + l9 x := by rw [qW]; simp [yJ]
    rw [e1, e2, Zb, bx, show (pre ++ [x]).length = pre.length + 1 by simp] at IH
    simp only [yJ] at hcn
    have hAl : (ocE (zL.zV (xD k pre))).length = pre.length := by rw [qn, zL.zT, lL]
    have hA := yX (zL.zV (xD k pre))
    have hR := fun m => xx m (zL.zV (xD k pre))
    have hB := yX (zL.zV rest)
    have hRB := fun m => xx m (zL.zV rest)
    rw [show ocE (zL.zV (x :: rest)) = x.enc.map oc :: ocE (zL.zV rest) from rfl]
    rw [show ocE (zL.zV [Un (k + yJ pre) x]) = [(Un (k + yJ pre) x).enc.map oc] from rfl] at IH
    have hg1 := fun y => qp (ocE (zL.zV (xD k pre))) (ocE (zL.zV rest)) y pre.length hAl
    have hs1 := fun y z => qo (ocE (zL.zV (xD k pre))) (ocE (zL.zV rest)) y z pre.length hAl
    clear hs e1 e2
    have hkb : k + yJ pre + l9 x ≤ 1073741824 := by omega
    rw [show k + (yJ pre + l9 x) = k + yJ pre + l9 x by omega] at IH
    generalize k + yJ pre = kp at *
    obtain ⟨name, version, source, sums, dev, needs⟩ := x
    simp only [zL.yh] at hbx
    simp only [l9] at hkb IH
    rw [show kp + (4 + 2 * sums.length + needs.length) = kp + 3 + 2 * sums.length + 1 + needs.length by omega] at IH
    have hmt0 := rC kp (by omega)
    have hmt1 := rC (kp + 1) (by omega)
    have hmt2 := rC (kp + 2) (by omega)
    have hmm := XH sums (by omega) none (kp + 3) (by omega) sums.length rfl
    have hms := jC needs (by omega) none (kp + 3 + 2 * sums.length + 1) (by omega) needs.length rfl
    have w0 : IntKind.i64.wrap ((kp : Int) + 1) = ((kp + 1 : Nat) : Int) := by rw [zx (by omega)]; omega
    have w1 : IntKind.i64.wrap (((kp + 1 : Nat) : Int) + 1) = ((kp + 2 : Nat) : Int) := by rw [zx (by omega)]; omega
    have w2 : IntKind.i64.wrap (((kp + 2 : Nat) : Int) + 1) = ((kp + 3 : Nat) : Int) := by rw [zx (by omega)]; omega
    have w3 : IntKind.i64.wrap ((pre.length : Int) + 1) = ((pre.length + 1 : Nat) : Int) := by rw [zx (by omega)]; omega
    have w4 : IntKind.i64.wrap (((kp + 3 + 2 * sums.length : Nat) : Int) + 1) = ((kp + 3 + 2 * sums.length + 1 : Nat) : Int) := by rw [zx (by omega)]; omega
    have e1 : (((kp + 3 + 2 * sums.length : Nat) : Int)).tmod 3 = (((kp + 3 + 2 * sums.length) % 3 : Nat) : Int) := (Int.ofNat_tmod _ 3).symm
    have hr3 : (kp + 3 + 2 * sums.length) % 3 < 3 := Nat.mod_lt _ (by omega)
    have hdv : ((((kp + 3 + 2 * sums.length) % 3 : Nat) : Int) == 0) = dvB (kp + 3 + 2 * sums.length) := rfl
    have hf1 := uS sums
    have hf2 := uS (tk sums.length (kp + 3))
    have hf3 := vD needs
    have hf4 := vD (mkS needs.length (kp + 3 + 2 * sums.length + 1))
    have hl1 := mj sums.length (kp + 3)
    have hl2 := vo needs.length (kp + 3 + 2 * sums.length + 1)
    simp only [Un, zL.enc, List.map_cons, List.map_nil, oc, List.append_assoc, List.cons_append, List.nil_append] at IH ⊢
    generalize tk sums.length (kp + 3) = mm at *
    generalize mkS needs.length (kp + 3 + 2 * sums.length + 1) = ms at *
    generalize mkT (kp + 2) = mt2 at *
    generalize mkT (kp + 1) = mt1 at *
    generalize mkT kp = mt0 at *
    generalize ocE (zL.zV (xD k pre)) = A at *
    generalize ocE (zL.zV rest) = B at *
    refine zz Tryz.func38 rfl rfl ?_
    simp (disch := ((try simp only [LL]); omega)) only [↓GO, ↓DRW, GA, ren, zB, zf, refs, zb, cst, zl, zH, z7, E.load, E.store, zG, isC, bin, zI, zJ, una, z8, za, zh, zK, blt, fnV, asArg, zd, zn, zo, zj, zi, zg, zk, zr, z6, zD, zF, mkS, zc, unN, zM, zm, zy, zC, ze, zN, zq, GS, Int.reduceToNat, Nat.reduceGT, ↓reduceIte, Nat.reduceAdd, Nat.reduceMul, Nat.reduceSub, Nat.reduceEqDiff, Nat.reduceLeDiff, Nat.reduceLT, Nat.reduceBEq, Int.reduceBEq, Int.reduceBNe, Int.reduceEq, Int.reduceLT, Int.reduceLE, Int.reduceGT, Int.reduceNeg, reduceCtorEq, yO, yP, qz, sX, rG, rF, w7, mkO, tA, tm, v8, qv, yZ, sV, sS, xt, oc, oTs, oT, xf, xf.rowTs, tr, isL, Bool.not_false, Bool.true_and, Bool.and_true, Bool.and_self, List.flatMap_append, List.map_append, List.set_cons_zero, List.set_cons_succ, GZ, c, c0, c00, if_true, Int.toNat_natCast, hmt0, hmt1, hmt2, hmm, hms, hg1, hs1, hA, hR, hB, hRB, w0, w1, w2, w3, w4, e1, hdv, hf1, hf2, hf3, hf4, hl1, hl2, zR, zZ.zT, zL.zT, qn, xx, yX, IH, zY]
theorem XI (cs : List zL) (hb : cs.length + zL.ya cs ≤ 4194304) (cap : Option Nat) (k : Nat) (hk : k + yJ cs ≤ 1073741824) (n : Nat) (hn : n = cs.length) :
    EV Tryz.prog pol (.callO false 38 [.sl 0 0 n cap, .t (.int .i64 (k : Int))] [.vs 6 (ocE (zL.zV cs))]) = some (.call (.t (.int .i64 ((k + yJ cs : Nat) : Int))) [.vs 6 (ocE (zL.zV (xD k cs)))]) := by
  subst hn
  have L := bQ cs (by omega) (fun c hc => by have := zL.yp hc; omega) cap k hk cs [] rfl
  simp only [List.length_nil, Int.natCast_zero, xD, yJ, show ocE (zL.zV []) = [] from rfl, List.nil_append, Nat.add_zero] at L
  refine yK Tryz.func38 rfl (by kernel_rfl) ?_
  unfold Tryz.f38
  simp (disch := ((try simp only [LL]); omega)) only [↓GO, ↓DRW, GA, ren, zB, zf, refs, zb, cst, zl, zH, z7, E.load, E.store, zG, isC, bin, zI, zJ, una, z8, za, zh, zK, blt, fnV, asArg, zd, zn, zo, zj, zi, zg, zk, zr, z6, zD, zF, mkS, zc, unN, zM, zm, zy, zC, ze, zN, zq, GS, Int.reduceToNat, Nat.reduceGT, ↓reduceIte, Nat.reduceAdd, Nat.reduceMul, Nat.reduceSub, Nat.reduceEqDiff, Nat.reduceLeDiff, Nat.reduceLT, Nat.reduceBEq, Int.reduceBEq, Int.reduceBNe, Int.reduceEq, Int.reduceLT, Int.reduceLE, Int.reduceGT, Int.reduceNeg, reduceCtorEq, yO, yP, qz, sX, rG, rF, w7, mkO, tA, tm, v8, qv, yZ, sV, sS, xt, oc, oTs, oT, xf, xf.rowTs, tr, isL, Bool.not_false, Bool.true_and, Bool.and_true, Bool.and_self, List.flatMap_append, List.map_append, List.set_cons_zero, List.set_cons_succ, GZ, L, xx, yX, zY]
theorem Ts (top : List Str) (cs : List zL) (ht : top.length ≤ 4194304) (hb : cs.length + zL.ya cs ≤ 4194304) (n1 n2 : Nat) (h1 : n1 = top.length) (h2 : n2 = cs.length) (p1 p2 : Option Nat) (k : Nat) (hk : k + top.length + yJ cs ≤ 1073741824) :
    EV Tryz.prog pol (.callO false 15 [.agg [.sl 0 0 n1 p1, .sl 1 0 n2 p2], .t (.int .i64 (k : Int))] [.ts 1 (y6 top), .vs 6 (ocE (zL.zV cs))])
      = some (.call (.t (.int .i64 ((k + top.length + yJ cs : Nat) : Int))) [.ts 1 (y6 (mkS top.length k)), .vs 6 (ocE (zL.zV (xD (k + top.length) cs)))]) := by
  subst h1 h2
  have d1 := jC top (by omega) p1 k (by omega) top.length rfl
  have d2 := XI cs hb p2 (k + top.length) (by omega) cs.length rfl
  refine yK Tryz.func15 rfl (by kernel_rfl) ?_
  unfold Tryz.f15
  simp (disch := ((try simp only [LL]); omega)) only [↓GO, ↓DRW, GA, ren, zB, zf, refs, zb, cst, zl, zH, z7, E.load, E.store, zG, isC, bin, zI, zJ, una, z8, za, zh, zK, blt, fnV, asArg, zd, zn, zo, zj, zi, zg, zk, zr, z6, zD, zF, mkS, zc, unN, zM, zm, zy, zC, ze, zN, zq, GS, Int.reduceToNat, Nat.reduceGT, ↓reduceIte, Nat.reduceAdd, Nat.reduceMul, Nat.reduceSub, Nat.reduceEqDiff, Nat.reduceLeDiff, Nat.reduceLT, Nat.reduceBEq, Int.reduceBEq, Int.reduceBNe, Int.reduceEq, Int.reduceLT, Int.reduceLE, Int.reduceGT, Int.reduceNeg, reduceCtorEq, yO, yP, qz, sX, rG, rF, w7, mkO, tA, tm, v8, qv, yZ, sV, sS, xt, oc, oTs, oT, xf, xf.rowTs, tr, isL, Bool.not_false, Bool.true_and, Bool.and_true, Bool.and_self, List.flatMap_append, List.map_append, List.set_cons_zero, List.set_cons_succ, GZ, d1, d2, xx, yX, zY]
end Go.Proofs.YtmcephnfcciloaaGreatDoor
/- Marks in packs and graphs found again. Conditions: those of each lemma. -/
namespace Go.Proofs.YtmcephnfcciloaaGreatDoor
open E
set_option linter.unusedSimpArgs false
set_option linter.unusedVariables false
set_option maxRecDepth 100000
end Go.Proofs.YtmcephnfcciloaaGreatDoor

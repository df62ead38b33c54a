/- Joined: K15 K16 K17 K18 K19 W7 W8 M1 M2 M3 M4 M5 M6 M7 M8 M9 B1 B2 B3 B4 G4 B9 I2. Conditions: those of each lemma. -/
import Derived.Test.YtmcephnfcciloaaGreatDoorYJ
import Derived.Test.YtmcephnfcciloaaGreatDoorYH
set_option linter.unusedVariables false
set_option linter.unusedSimpArgs false
namespace Go.Proofs.YtmcephnfcciloaaGreatDoor
open E
set_option linter.unusedSimpArgs false
set_option linter.unusedVariables false
set_option maxRecDepth 100000
def bT : Option Bd → V
  | some b => .tup [.agg [.t (.str b.1), .t (.str b.2)], .t (.bool true)]
  | none => .tup [.agg [.t (.str []), .t (.str [])], .t (.bool false)]
theorem Q3 (s : Str) : alT s = bT (x6 s) := by
  unfold alT bT
  cases x6 s with
  | none => rfl
  | some b => obtain ⟨a, b⟩ := b; rfl
theorem lM (x : UInt8) (c : UInt8) : ((x.toNat : Int) == (c.toNat : Int)) = (x == c) := by
  rw [Bool.eq_iff_iff]; simp only [beq_iff_eq]
  constructor
  · intro h; exact UInt8.toNat_inj.1 (by omega)
  · intro h; rw [h]
theorem R9 (s : Str) (hl : s.length ≤ 1048700) : zC (EV Tryz.prog pol) 116 [.t (.str s)] = some (.t (.bool (isE s))) := by
  have h := ni s hl
  unfold rvT at h
  unfold isE isV
  generalize (zM s).1 = v at *
  simp only [Ver.enc, List.map_cons, List.map_nil] at h
  cases hk : (zM s).2 <;> rw [hk] at h <;> cases hn : (s == [])
  all_goals
    apply zw
    refine zy rfl Tryz.func116 rfl (by kernel_rfl) ?_
    unfold Tryz.f116
    simp (disch := ((try simp only [LL]); omega)) only [↓GO, ↓DRW, GA, ren, zA, zd, refs, zb, cst, zl, zG, z7, E.load, E.store, zF, isC, bin, zH, zI, una, z8, za, zh, zJ, blt, fnV, asArg, ze, zn, zo, zj, zi, zg, zk, zr, z6, zD, zE, E.mkS, zc, unN, zK, zm, zz, zB, zf, zL, zq, GS, simprocAttr, GZ, h, hn]
theorem UC (l : List Bd) (hl : l.length ≤ 4194304) (hb : ∀ b ∈ l, b.1.length ≤ 1048700 ∧ b.2.length ≤ 1048700) : ∀ (rest pre : List Bd), l = pre ++ rest →
    EV Tryz.prog pol (.loop 88 26 0 [.t (.list 2 (bdT l)), .t (.int .i64 (pre.length : Int))] []) = some (cond (rest.all fun b => isE b.1 && isE b.2) (.loop (.exit 0) [.t (.list 2 (bdT l)), .bad] []) (.loop .ret [.t (.list 2 (bdT l)), .t (.bool false)] []))
  | [], pre, hs => by
    have c : decide ((pre.length : Int) < (l.length : Int)) = false := by simp [hs]
    simp only [List.all_nil, cond_true]
    refine zu Tryz.func88 rfl rfl ?_
    simp (disch := ((try simp only [LL]); omega)) only [↓GO, ↓DRW, GA, ren, zA, zd, refs, zb, cst, zl, zG, z7, E.load, E.store, zF, isC, bin, zH, zI, una, z8, za, zh, zJ, blt, fnV, asArg, ze, zn, zo, zj, zi, zg, zk, zr, z6, zD, zE, E.mkS, zc, unN, zK, zm, zz, zB, zf, zL, zq, GS, simprocAttr, GZ, c, xY]
  | x :: rest, pre, hs => by
    have c : decide ((pre.length : Int) < (l.length : Int)) = true := by simp [hs]; omega
    have hget : (bdT l)[pre.length]? = some [.str x.1, .str x.2] := by rw [hs]; exact wL (fun b : Bd => [T.str b.1, T.str b.2]) pre x rest
    have hlen : pre.length + rest.length + 1 ≤ l.length := by rw [hs]; simp; omega
    have hx := hb x (by rw [hs]; simp)
    have h1 := R9 x.1 hx.1
    have h2 := R9 x.2 hx.2
    have IH := UC l hl hb rest (pre ++ [x]) (by rw [hs]; simp)
    rw [show ((pre ++ [x]).length : Int) = (pre.length : Int) + 1 by simp] at IH
    clear hs hb
    rw [List.all_cons]
    generalize isE x.1 = a1 at *
    generalize isE x.2 = a2 at *
    cases a1 <;> cases a2
    all_goals
      refine zu Tryz.func88 rfl rfl ?_
      simp (disch := ((try simp only [LL]); omega)) only [↓GO, ↓DRW, GA, ren, zA, zd, refs, zb, cst, zl, zG, z7, E.load, E.store, zF, isC, bin, zH, zI, una, z8, za, zh, zJ, blt, fnV, asArg, ze, zn, zo, zj, zi, zg, zk, zr, z6, zD, zE, E.mkS, zc, unN, zK, zm, zz, zB, zf, zL, zq, GS, simprocAttr, GZ, c, hget, h1, h2, zx, xY, IH]
theorem iY (l : List Bd) (hl : l.length ≤ 4194304) (hb : ∀ b ∈ l, b.1.length ≤ 1048700 ∧ b.2.length ≤ 1048700) : zC (EV Tryz.prog pol) 88 [.t (.list 2 (bdT l))] = some (.t (.bool (xt l))) := by
  have L := UC l hl hb l [] rfl
  have h := xX (l.length : Int) 1 8
  simp only [List.length_nil, Int.natCast_zero] at L
  unfold xt
  generalize B2 (l.length : Int) 1 8 = b2 at *
  cases ha : (l.all fun b => isE b.1 && isE b.2) <;> rw [ha] at L <;> simp only [cond_true, cond_false] at L
  all_goals
    apply zw
    refine zy rfl Tryz.func88 rfl (by kernel_rfl) ?_
    unfold Tryz.f88
    simp (disch := ((try simp only [LL]); omega)) only [↓GO, ↓DRW, GA, ren, zA, zd, refs, zb, cst, zl, zG, z7, E.load, E.store, zF, isC, bin, zH, zI, una, z8, za, zh, zJ, blt, fnV, asArg, ze, zn, zo, zj, zi, zg, zk, zr, z6, zD, zE, E.mkS, zc, unN, zK, zm, zz, zB, zf, zL, zq, GS, simprocAttr, GZ, L, h, xY]
theorem UX (s : Str) (v : Ver) (p : Int) (hs : v.sm) (hp : p = 0 ∨ p = 1 ∨ p = 2) (h1 : -1 ≤ v.maj ∧ v.maj ≤ 999999999) (h2 : -1 ≤ v.min ∧ v.min ≤ 999999999) (h3 : -1 ≤ v.pat ∧ v.pat ≤ 999999999) :
    zC (EV Tryz.prog pol) 109 [.t (.str s), .agg (v.enc.map .t), .t (.int .i64 p)] = some (bT (lN v s p)) := by
  have d := iK v p hs hp h1 h2 h3
  unfold lN bT
  generalize vy v p = bl at *
  obtain ⟨t, ok⟩ := bl
  simp only [Ver.enc, List.map_cons, List.map_nil] at d ⊢
  cases ok <;> simp only [cond_true, cond_false] at d ⊢
  all_goals
    apply zw
    refine zy rfl Tryz.func109 rfl (by kernel_rfl) ?_
    unfold Tryz.f109
    simp (disch := ((try simp only [LL]); omega)) only [↓GO, ↓DRW, GA, ren, zA, zd, refs, zb, cst, zl, zG, z7, E.load, E.store, zF, isC, bin, zH, zI, una, z8, za, zh, zJ, blt, fnV, asArg, ze, zn, zo, zj, zi, zg, zk, zr, z6, zD, zE, E.mkS, zc, unN, zK, zm, zz, zB, zf, zL, zq, GS, simprocAttr, GZ, d]
theorem WL (v : Ver) : zC (EV Tryz.prog pol) 110 [.agg (v.enc.map .t)] = some (.t (.int .i64 (u6 v))) := by
  unfold u6
  simp only [Ver.enc, List.map_cons, List.map_nil]
  cases h1 : decide (v.maj > 0) <;> cases h2 : decide (v.min > 0) <;> simp only [cond_true, cond_false]
  all_goals
    apply zw
    refine zy rfl Tryz.func110 rfl (by kernel_rfl) ?_
    unfold Tryz.f110
    simp (disch := ((try simp only [LL]); omega)) only [↓GO, ↓DRW, GA, ren, zA, zd, refs, zb, cst, zl, zG, z7, E.load, E.store, zF, isC, bin, zH, zI, una, z8, za, zh, zJ, blt, fnV, asArg, ze, zn, zo, zj, zi, zg, zk, zr, z6, zD, zE, E.mkS, zc, unN, zK, zm, zz, zB, zf, zL, zq, GS, simprocAttr, GZ, h1, h2]
theorem YG (v : Ver) : u6 v = 0 ∨ u6 v = 1 ∨ u6 v = 2 := by
  unfold u6
  cases decide (v.maj > 0) <;> cases decide (v.min > 0) <;> simp
theorem Se (s : Str) (hl : s.length ≤ 4194304) : zC (EV Tryz.prog pol) 151 [.t (.str s)] = some (.t (.list 1 (zV (yi 32 s)))) := by
  have h := lI s 32 hl
  rw [show (((32 : UInt8).toNat : Nat) : Int) = 32 from rfl] at h
  apply zw
  refine zy rfl Tryz.func151 rfl (by kernel_rfl) ?_
  unfold Tryz.f151
  simp (disch := ((try simp only [LL]); omega)) only [↓GO, ↓DRW, GA, ren, zA, zd, refs, zb, cst, zl, zG, z7, E.load, E.store, zF, isC, bin, zH, zI, una, z8, za, zh, zJ, blt, fnV, asArg, ze, zn, zo, zj, zi, zg, zk, zr, z6, zD, zE, E.mkS, zc, unN, zK, zm, zz, zB, zf, zL, zq, GS, simprocAttr, GZ, h]
theorem WA (s : Str) (hl : s.length ≤ 1048600) : zC (EV Tryz.prog pol) 112 [.t (.str s)] = some (bT (wY s)) := by
  have h1 := lI s 46 (by omega)
  rw [show (((46 : UInt8).toNat : Nat) : Int) = 46 from rfl] at h1
  have hfl : (wF s).length ≤ 1048700 := by unfold wF; cases (((yi 46 s).length : Int) == 1) <;> simp <;> omega
  have h2 := ni (wF s) hfl
  obtain ⟨m1, m2, m3, m4, m5, m6, m7⟩ := x7 (wF s) hfl
  have h3 := xX ((yi 46 s).length : Int) 1 2
  have hg := iX (zM (wF s)).1.pre
  have h4 := fun hp => iK (zM (wF s)).1 (((yi 46 s).length : Int) - 1) m1 hp ⟨m3, m2⟩ ⟨m5, m4⟩ ⟨m7, m6⟩
  have hcn : 1 ≤ (yi 46 s).length := by
    cases hc : yi 46 s with
    | nil => exact absurd hc (yX 46 s)
    | cons p q => simp
  have hbk := xR 46 s
  have hB : B2 ((yi 46 s).length : Int) 1 2 = true → ((yi 46 s).length : Int) - 1 = 0 ∨ ((yi 46 s).length : Int) - 1 = 1 ∨ ((yi 46 s).length : Int) - 1 = 2 := fun h => by
    unfold B2 at h
    simp only [Bool.and_eq_true, decide_eq_true_eq] at h
    omega
  have h5 := fun h => h4 (hB h)
  clear h4 hB
  unfold wY isV
  unfold rvT at h2
  have hfull : wF s = cond (((yi 46 s).length : Int) == 1) (s ++ [46, 48, 46, 48]) (s ++ [46, 48]) := rfl
  generalize wF s = f at *
  generalize (zM f).2 = ok at *
  generalize (zM f).1 = v at *
  generalize vy v (((yi 46 s).length : Int) - 1) = bl at *
  obtain ⟨bt, bo⟩ := bl
  generalize B2 ((yi 46 s).length : Int) 1 2 = b2 at *
  generalize yi 46 s = ps at *
  simp only [Ver.enc, List.map_cons, List.map_nil] at h2 h5 ⊢
  cases h46 : ((ps.length : Int) == 1) <;> rw [h46] at hfull <;> simp only [cond_true, cond_false] at hfull <;> subst hfull <;>
    cases ok <;> cases b2 <;> cases hpre : (v.pre == []) <;> rw [hpre] at hg <;> simp only [Bool.not_true, Bool.not_false, Bool.or_true, Bool.or_false, Bool.true_or, Bool.false_or, cond_true, cond_false, bT] at hg ⊢
  all_goals simp only [true_implies, false_implies, reduceCtorEq] at h5
  all_goals cases bo
  all_goals try simp only [cond_true, cond_false]
  all_goals
    apply zw
    refine zy rfl Tryz.func112 rfl (by kernel_rfl) ?_
    unfold Tryz.f112
    simp (disch := ((try simp only [LL]); omega)) only [↓GO, ↓DRW, GA, ren, zA, zd, refs, zb, cst, zl, zG, z7, E.load, E.store, zF, isC, bin, zH, zI, una, z8, za, zh, zJ, blt, fnV, asArg, ze, zn, zo, zj, zi, zg, zk, zr, z6, zD, zE, E.mkS, zc, unN, zK, zm, zz, zB, zf, zL, zq, GS, simprocAttr, GZ, h1, h2, h3, h46, hg, h5, zO, zx, xK]
end Go.Proofs.YtmcephnfcciloaaGreatDoor
/- Ranges, by the reference: signs, parts. Conditions: those of each lemma. -/
namespace Go.Proofs.YtmcephnfcciloaaGreatDoor
open E
set_option linter.unusedSimpArgs false
set_option linter.unusedVariables false
set_option maxRecDepth 100000
theorem Up (b : Bd) : xt [b] = (isE b.1 && isE b.2) := by
  unfold xt
  simp [B2]
/-- the head of a word -/
theorem pG (x : Str) : (ltW x = false ∧ decide ((x.length : Int) > 1) = false) ∨ (∃ a r, x = a :: r ∧ decide ((x.length : Int) > 1) = true ∧ ltW x = (a == 60)) := by
  unfold ltW
  cases h : decide ((x.length : Int) > 1) with
  | false => left; simp
  | true =>
    right
    cases x with
    | nil => simp at h
    | cons a r => exact ⟨a, r, rfl, rfl, by simp [hdB]⟩
theorem j9 (x : Str) : (geW x = false ∧ decide ((x.length : Int) > 2) = false) ∨ (decide ((x.length : Int) > 2) = true ∧ geW x = (x.take 2 == [62, 61])) := by
  unfold geW
  cases h : decide ((x.length : Int) > 2) with
  | false => left; simp
  | true => right; simp
theorem l_sg1 (x : Str) : EV Tryz.prog pol (.loop 111 122 0 [.ptr 0 0 0, .t (.list 1 [[.str x]]), .ptr 1 0 0, .t (.int .i64 0)] [.vs 2 [[.t (.str []), .t (.str [])]], .vs 2 [[.t (.str []), .t (.str [])]]])
    = some (cond (geW x) (.loop (.exit 0) [.ptr 0 0 0, .bad, .t (.list 1 [[.str x]]), .ptr 1 0 0] [.vs 2 [[.t (.str []), .t (.str [])]], .vs 2 [[.t (.str (x.drop 2)), .t (.str [])]]])
      (cond (ltW x) (.loop (.exit 0) [.ptr 0 0 0, .bad, .t (.list 1 [[.str x]]), .ptr 1 0 0] [.vs 2 [[.t (.str []), .t (.str [])]], .vs 2 [[.t (.str []), .t (.str (x.drop 1))]]])
        (.loop .ret [.ptr 0 0 0, .t (.bool false), .t (.list 1 [[.str x]]), .ptr 1 0 0] [.vs 2 [[.t (.str []), .t (.str [])]], .vs 2 [[.t (.str []), .t (.str [])]]]))) := by
  have E1 : ∀ lo' hi' : Str, EV Tryz.prog pol (.loop 111 122 0 [.ptr 0 0 0, .t (.list 1 [[.str x]]), .ptr 1 0 0, .t (.int .i64 1)] [.vs 2 [[.t (.str []), .t (.str [])]], .vs 2 [[.t (.str lo'), .t (.str hi')]]]) = some (.loop (.exit 0) [.ptr 0 0 0, .bad, .t (.list 1 [[.str x]]), .ptr 1 0 0] [.vs 2 [[.t (.str []), .t (.str [])]], .vs 2 [[.t (.str lo'), .t (.str hi')]]]) := fun lo' hi' => by
    refine zu Tryz.func111 rfl rfl ?_
    simp (disch := ((try simp only [LL]); omega)) only [↓GO, ↓DRW, GA, ren, zA, zd, refs, zb, cst, zl, zG, z7, E.load, E.store, zF, isC, bin, zH, zI, una, z8, za, zh, zJ, blt, fnV, asArg, ze, zn, zo, zj, zi, zg, zk, zr, z6, zD, zE, E.mkS, zc, unN, zK, zm, zz, zB, zf, zL, zq, GS, simprocAttr, GZ, zZ]
  rcases j9 x with ⟨hg, g1⟩ | ⟨g1, hg⟩
  · rw [hg]
    rcases pG x with ⟨hl, g3⟩ | ⟨a, r, hx, g3, hl⟩
    · rw [hl]
      simp only [cond_false]
      refine zu Tryz.func111 rfl rfl ?_
      simp (disch := ((try simp only [LL]); omega)) only [↓GO, ↓DRW, GA, ren, zA, zd, refs, zb, cst, zl, zG, z7, E.load, E.store, zF, isC, bin, zH, zI, una, z8, za, zh, zJ, blt, fnV, asArg, ze, zn, zo, zj, zi, zg, zk, zr, z6, zD, zE, E.mkS, zc, unN, zK, zm, zz, zB, zf, zL, zq, GS, simprocAttr, GZ, g1, g3, zZ, Int.reduceAdd, Int.reduceSub, zx]
    · rw [hl]
      have h0 : x[0]? = some a := by rw [hx]; rfl
      have h60 := lM a 60
      rw [show (((60 : UInt8).toNat : Nat) : Int) = 60 from rfl] at h60
      have hxl : 1 ≤ x.length := by rw [hx]; simp
      clear hx hl
      simp only [cond_false]
      cases hh : (a == 60) <;> rw [hh] at h60 <;> simp only [cond_true, cond_false]
      all_goals
        refine zu Tryz.func111 rfl rfl ?_
        simp (disch := ((try simp only [LL]); omega)) only [↓GO, ↓DRW, GA, ren, zA, zd, refs, zb, cst, zl, zG, z7, E.load, E.store, zF, isC, bin, zH, zI, una, z8, za, zh, zJ, blt, fnV, asArg, ze, zn, zo, zj, zi, zg, zk, zr, z6, zD, zE, E.mkS, zc, unN, zK, zm, zz, zB, zf, zL, zq, GS, simprocAttr, GZ, g1, g3, h0, h60, E1, zZ, Int.reduceAdd, Int.reduceSub, zx]
  · rw [hg]
    have h2 : 2 ≤ x.length := by have := of_decide_eq_true g1; omega
    cases ht : (x.take 2 == [62, 61]) with
    | true =>
      simp only [cond_true]
      refine zu Tryz.func111 rfl rfl ?_
      simp (disch := ((try simp only [LL]); omega)) only [↓GO, ↓DRW, GA, ren, zA, zd, refs, zb, cst, zl, zG, z7, E.load, E.store, zF, isC, bin, zH, zI, una, z8, za, zh, zJ, blt, fnV, asArg, ze, zn, zo, zj, zi, zg, zk, zr, z6, zD, zE, E.mkS, zc, unN, zK, zm, zz, zB, zf, zL, zq, GS, simprocAttr, GZ, g1, ht, E1, zZ, Int.reduceAdd, Int.reduceSub, zx]
    | false =>
      simp only [cond_false]
      rcases pG x with ⟨hl, g3⟩ | ⟨a, r, hx, g3, hl⟩
      · have := of_decide_eq_false g3; omega
      · rw [hl]
        have h0 : x[0]? = some a := by rw [hx]; rfl
        have h60 := lM a 60
        rw [show (((60 : UInt8).toNat : Nat) : Int) = 60 from rfl] at h60
        clear hx hl
        cases hh : (a == 60) <;> rw [hh] at h60 <;> simp only [cond_true, cond_false]
        all_goals
          refine zu Tryz.func111 rfl rfl ?_
          simp (disch := ((try simp only [LL]); omega)) only [↓GO, ↓DRW, GA, ren, zA, zd, refs, zb, cst, zl, zG, z7, E.load, E.store, zF, isC, bin, zH, zI, una, z8, za, zh, zJ, blt, fnV, asArg, ze, zn, zo, zj, zi, zg, zk, zr, z6, zD, zE, E.mkS, zc, unN, zK, zm, zz, zB, zf, zL, zq, GS, simprocAttr, GZ, g1, g3, ht, h0, h60, E1, zZ, Int.reduceAdd, Int.reduceSub, zx]
/-- the first round, where there are more words -/
theorem SU (x : Str) (ws : List (List T)) (n : Nat) (hn : n = ws.length) (h2 : 2 ≤ n) (hl : n ≤ 4194304) (h0 : ws[0]? = some [.str x]) (B : xS)
    (IH : geW x = true → EV Tryz.prog pol (.loop 111 122 0 [.ptr 0 0 0, .t (.list 1 ws), .ptr 1 0 0, .t (.int .i64 1)] [.vs 2 [[.t (.str []), .t (.str [])]], .vs 2 [[.t (.str (x.drop 2)), .t (.str [])]]]) = some B) :
    EV Tryz.prog pol (.loop 111 122 0 [.ptr 0 0 0, .t (.list 1 ws), .ptr 1 0 0, .t (.int .i64 0)] [.vs 2 [[.t (.str []), .t (.str [])]], .vs 2 [[.t (.str []), .t (.str [])]]])
    = some (cond (geW x) B (.loop .ret [.ptr 0 0 0, .t (.bool false), .t (.list 1 ws), .ptr 1 0 0] [.vs 2 [[.t (.str []), .t (.str [])]], .vs 2 [[.t (.str []), .t (.str [])]]])) := by
  have c0 : decide ((0 : Int) < (ws.length : Int)) = true := decide_eq_true (by omega)
  have c1 : ((0 : Int) == (ws.length : Int) - 1) = false := by rw [beq_eq_false_iff_ne]; omega
  have hg0 : uV ws 0 = some [.str x] := by rw [uE]; exact h0
  subst hn
  rcases j9 x with ⟨hg, g1⟩ | ⟨g1, hg⟩
  · rw [hg]
    simp only [cond_false]
    refine zu Tryz.func111 rfl rfl ?_
    simp (disch := ((try simp only [LL]); omega)) only [↓GO, ↓DRW, GA, ren, zA, zd, refs, zb, cst, zl, zG, z7, E.load, E.store, zF, isC, bin, zH, zI, una, z8, za, zh, zJ, blt, fnV, asArg, ze, zn, zo, zj, zi, zg, zk, zr, z6, zD, zE, E.mkS, zc, unN, zK, zm, zz, zB, zf, zL, zq, GS, simprocAttr, GZ, c0, c1, h0, hg0, g1, zZ, zx]
  · rw [hg] at IH ⊢
    have hx2 : 2 ≤ x.length := by have := of_decide_eq_true g1; omega
    cases ht : (x.take 2 == [62, 61]) <;> rw [ht] at IH <;> simp only [cond_true, cond_false]
    · refine zu Tryz.func111 rfl rfl ?_
      simp (disch := ((try simp only [LL]); omega)) only [↓GO, ↓DRW, GA, ren, zA, zd, refs, zb, cst, zl, zG, z7, E.load, E.store, zF, isC, bin, zH, zI, una, z8, za, zh, zJ, blt, fnV, asArg, ze, zn, zo, zj, zi, zg, zk, zr, z6, zD, zE, E.mkS, zc, unN, zK, zm, zz, zB, zf, zL, zq, GS, simprocAttr, GZ, c0, c1, h0, hg0, g1, ht, zZ, zx]
    · have IH := IH rfl
      refine zu Tryz.func111 rfl rfl ?_
      simp (disch := ((try simp only [LL]); omega)) only [↓GO, ↓DRW, GA, ren, zA, zd, refs, zb, cst, zl, zG, z7, E.load, E.store, zF, isC, bin, zH, zI, una, z8, za, zh, zJ, blt, fnV, asArg, ze, zn, zo, zj, zi, zg, zk, zr, z6, zD, zE, E.mkS, zc, unN, zK, zm, zz, zB, zf, zL, zq, GS, simprocAttr, GZ, c0, c1, h0, hg0, g1, ht, IH, zZ, zx, Int.reduceAdd]
theorem l_sg2 (x y lo : Str) : EV Tryz.prog pol (.loop 111 122 0 [.ptr 0 0 0, .t (.list 1 [[.str x], [.str y]]), .ptr 1 0 0, .t (.int .i64 1)] [.vs 2 [[.t (.str []), .t (.str [])]], .vs 2 [[.t (.str lo), .t (.str [])]]])
    = some (cond (ltW y) (.loop (.exit 0) [.ptr 0 0 0, .bad, .t (.list 1 [[.str x], [.str y]]), .ptr 1 0 0] [.vs 2 [[.t (.str []), .t (.str [])]], .vs 2 [[.t (.str lo), .t (.str (y.drop 1))]]])
        (.loop .ret [.ptr 0 0 0, .t (.bool false), .t (.list 1 [[.str x], [.str y]]), .ptr 1 0 0] [.vs 2 [[.t (.str []), .t (.str [])]], .vs 2 [[.t (.str lo), .t (.str [])]]])) := by
  have E1 : ∀ lo' hi' : Str, EV Tryz.prog pol (.loop 111 122 0 [.ptr 0 0 0, .t (.list 1 [[.str x], [.str y]]), .ptr 1 0 0, .t (.int .i64 2)] [.vs 2 [[.t (.str []), .t (.str [])]], .vs 2 [[.t (.str lo'), .t (.str hi')]]]) = some (.loop (.exit 0) [.ptr 0 0 0, .bad, .t (.list 1 [[.str x], [.str y]]), .ptr 1 0 0] [.vs 2 [[.t (.str []), .t (.str [])]], .vs 2 [[.t (.str lo'), .t (.str hi')]]]) := fun lo' hi' => by
    refine zu Tryz.func111 rfl rfl ?_
    simp (disch := ((try simp only [LL]); omega)) only [↓GO, ↓DRW, GA, ren, zA, zd, refs, zb, cst, zl, zG, z7, E.load, E.store, zF, isC, bin, zH, zI, una, z8, za, zh, zJ, blt, fnV, asArg, ze, zn, zo, zj, zi, zg, zk, zr, z6, zD, zE, E.mkS, zc, unN, zK, zm, zz, zB, zf, zL, zq, GS, simprocAttr, GZ, zZ]
  rcases pG y with ⟨hl, g3⟩ | ⟨a, r, hx, g3, hl⟩
  · rw [hl]
    simp only [cond_false]
    refine zu Tryz.func111 rfl rfl ?_
    simp (disch := ((try simp only [LL]); omega)) only [↓GO, ↓DRW, GA, ren, zA, zd, refs, zb, cst, zl, zG, z7, E.load, E.store, zF, isC, bin, zH, zI, una, z8, za, zh, zJ, blt, fnV, asArg, ze, zn, zo, zj, zi, zg, zk, zr, z6, zD, zE, E.mkS, zc, unN, zK, zm, zz, zB, zf, zL, zq, GS, simprocAttr, GZ, g3, zZ, Int.reduceAdd, Int.reduceSub, zx]
  · rw [hl]
    have h0 : y[0]? = some a := by rw [hx]; rfl
    have h60 := lM a 60
    rw [show (((60 : UInt8).toNat : Nat) : Int) = 60 from rfl] at h60
    have hxl : 1 ≤ y.length := by rw [hx]; simp
    clear hx hl
    cases hh : (a == 60) <;> rw [hh] at h60 <;> simp only [cond_true, cond_false]
    all_goals
      refine zu Tryz.func111 rfl rfl ?_
      simp (disch := ((try simp only [LL]); omega)) only [↓GO, ↓DRW, GA, ren, zA, zd, refs, zb, cst, zl, zG, z7, E.load, E.store, zF, isC, bin, zH, zI, una, z8, za, zh, zJ, blt, fnV, asArg, ze, zn, zo, zj, zi, zg, zk, zr, z6, zD, zE, E.mkS, zc, unN, zK, zm, zz, zB, zf, zL, zq, GS, simprocAttr, GZ, g3, h0, h60, E1, zZ, Int.reduceAdd, Int.reduceSub, zx]
theorem l_sg3 (x y lo : Str) (ws : List (List T)) (n : Nat) (hn : n = ws.length) (h2 : 3 ≤ n) (hl : n ≤ 4194304) : EV Tryz.prog pol (.loop 111 122 0 [.ptr 0 0 0, .t (.list 1 ws), .ptr 1 0 0, .t (.int .i64 1)] [.vs 2 [[.t (.str []), .t (.str [])]], .vs 2 [[.t (.str lo), .t (.str [])]]])
    = some (.loop .ret [.ptr 0 0 0, .t (.bool false), .t (.list 1 ws), .ptr 1 0 0] [.vs 2 [[.t (.str []), .t (.str [])]], .vs 2 [[.t (.str lo), .t (.str [])]]]) := by
  have c0 : decide ((1 : Int) < (ws.length : Int)) = true := decide_eq_true (by omega)
  have c1 : ((1 : Int) == (ws.length : Int) - 1) = false := by rw [beq_eq_false_iff_ne]; omega
  subst hn
  refine zu Tryz.func111 rfl rfl ?_
  simp (disch := ((try simp only [LL]); omega)) only [↓GO, ↓DRW, GA, ren, zA, zd, refs, zb, cst, zl, zG, z7, E.load, E.store, zF, isC, bin, zH, zI, una, z8, za, zh, zJ, blt, fnV, asArg, ze, zn, zo, zj, zi, zg, zk, zr, z6, zD, zE, E.mkS, zc, unN, zK, zm, zz, zB, zf, zL, zq, GS, simprocAttr, GZ, c0, c1, zZ, zx]
theorem Wz (s : Str) (hl : s.length ≤ 1048600) : zC (EV Tryz.prog pol) 111 [.t (.str s)] = some (bT (uq s)) := by
  have h1 := Se s (by omega)
  have hbk := xR 32 s
  unfold uq
  match hp : yi 32 s with
  | [] => exact absurd hp (yX 32 s)
  | [x] =>
    rw [hp] at h1 hbk
    simp only [yk, List.length_cons, List.length_nil] at hbk
    have L := l_sg1 x
    have hd2 : (x.drop 2).length ≤ x.length := by rw [List.length_drop]; omega
    have hd1 : (x.drop 1).length ≤ x.length := by rw [List.length_drop]; omega
    have r1 := iY [(x.drop 2, [])] (by simp) (by simp; omega)
    have r2 := iY [([], x.drop 1)] (by simp) (by simp; omega)
    rw [Up] at r1 r2
    simp only [bdT, List.map_cons, List.map_nil, xp, yf] at r1 r2 h1 ⊢
    generalize (isE (x.drop 2) && isE []) = k1 at *
    generalize (isE [] && isE (x.drop 1)) = k2 at *
    cases hg : geW x <;> rw [hg] at L <;> simp only [cond_true, cond_false] at L ⊢
    · cases hq : ltW x <;> rw [hq] at L <;> simp only [cond_true, cond_false] at L ⊢
      · simp only [bT]
        apply zw
        refine zy rfl Tryz.func111 rfl (by kernel_rfl) ?_
        unfold Tryz.f111
        simp (disch := ((try simp only [LL]); omega)) only [↓GO, ↓DRW, GA, ren, zA, zd, refs, zb, cst, zl, zG, z7, E.load, E.store, zF, isC, bin, zH, zI, una, z8, za, zh, zJ, blt, fnV, asArg, ze, zn, zo, zj, zi, zg, zk, zr, z6, zD, zE, E.mkS, zc, unN, zK, zm, zz, zB, zf, zL, zq, GS, simprocAttr, GZ, h1, L, zZ]
      · cases k2 <;> simp only [cond_true, cond_false, bT]
        all_goals
          apply zw
          refine zy rfl Tryz.func111 rfl (by kernel_rfl) ?_
          unfold Tryz.f111
          simp (disch := ((try simp only [LL]); omega)) only [↓GO, ↓DRW, GA, ren, zA, zd, refs, zb, cst, zl, zG, z7, E.load, E.store, zF, isC, bin, zH, zI, una, z8, za, zh, zJ, blt, fnV, asArg, ze, zn, zo, zj, zi, zg, zk, zr, z6, zD, zE, E.mkS, zc, unN, zK, zm, zz, zB, zf, zL, zq, GS, simprocAttr, GZ, h1, L, r2, zZ]
    · cases k1 <;> simp only [cond_true, cond_false, bT]
      all_goals
        apply zw
        refine zy rfl Tryz.func111 rfl (by kernel_rfl) ?_
        unfold Tryz.f111
        simp (disch := ((try simp only [LL]); omega)) only [↓GO, ↓DRW, GA, ren, zA, zd, refs, zb, cst, zl, zG, z7, E.load, E.store, zF, isC, bin, zH, zI, una, z8, za, zh, zJ, blt, fnV, asArg, ze, zn, zo, zj, zi, zg, zk, zr, z6, zD, zE, E.mkS, zc, unN, zK, zm, zz, zB, zf, zL, zq, GS, simprocAttr, GZ, h1, L, r1, zZ]
  | [x, y] =>
    rw [hp] at h1 hbk
    simp only [yk, List.length_cons, List.length_nil] at hbk
    have L2 := l_sg2 x y (x.drop 2)
    have L := SU x [[.str x], [.str y]] 2 rfl (by omega) (by omega) rfl _ (fun _ => L2)
    have hd2 : (x.drop 2).length ≤ x.length := by rw [List.length_drop]; omega
    have hd1 : (y.drop 1).length ≤ y.length := by rw [List.length_drop]; omega
    have r1 := iY [(x.drop 2, y.drop 1)] (by simp) (by simp; omega)
    rw [Up] at r1
    simp only [bdT, List.map_cons, List.map_nil, xp, yf] at r1 h1 ⊢
    generalize (isE (x.drop 2) && isE (y.drop 1)) = k1 at *
    clear L2
    cases hg : geW x <;> rw [hg] at L <;> simp only [cond_true, cond_false] at L ⊢
    · simp only [bT]
      apply zw
      refine zy rfl Tryz.func111 rfl (by kernel_rfl) ?_
      unfold Tryz.f111
      simp (disch := ((try simp only [LL]); omega)) only [↓GO, ↓DRW, GA, ren, zA, zd, refs, zb, cst, zl, zG, z7, E.load, E.store, zF, isC, bin, zH, zI, una, z8, za, zh, zJ, blt, fnV, asArg, ze, zn, zo, zj, zi, zg, zk, zr, z6, zD, zE, E.mkS, zc, unN, zK, zm, zz, zB, zf, zL, zq, GS, simprocAttr, GZ, h1, L, zZ]
    · cases hq : ltW y <;> rw [hq] at L <;> simp only [cond_true, cond_false] at L ⊢
      · simp only [bT]
        apply zw
        refine zy rfl Tryz.func111 rfl (by kernel_rfl) ?_
        unfold Tryz.f111
        simp (disch := ((try simp only [LL]); omega)) only [↓GO, ↓DRW, GA, ren, zA, zd, refs, zb, cst, zl, zG, z7, E.load, E.store, zF, isC, bin, zH, zI, una, z8, za, zh, zJ, blt, fnV, asArg, ze, zn, zo, zj, zi, zg, zk, zr, z6, zD, zE, E.mkS, zc, unN, zK, zm, zz, zB, zf, zL, zq, GS, simprocAttr, GZ, h1, L, zZ]
      · cases k1 <;> simp only [cond_true, cond_false, bT]
        all_goals
          apply zw
          refine zy rfl Tryz.func111 rfl (by kernel_rfl) ?_
          unfold Tryz.f111
          simp (disch := ((try simp only [LL]); omega)) only [↓GO, ↓DRW, GA, ren, zA, zd, refs, zb, cst, zl, zG, z7, E.load, E.store, zF, isC, bin, zH, zI, una, z8, za, zh, zJ, blt, fnV, asArg, ze, zn, zo, zj, zi, zg, zk, zr, z6, zD, zE, E.mkS, zc, unN, zK, zm, zz, zB, zf, zL, zq, GS, simprocAttr, GZ, h1, L, r1, zZ]
  | x :: y :: z :: r =>
    rw [hp] at h1 hbk
    have hn : (zV (x :: y :: z :: r)).length = r.length + 3 := by rw [zO]; simp
    have hb3 : r.length + 3 ≤ 4194304 := by simp only [List.length_cons] at hbk; omega
    have L := SU x (zV (x :: y :: z :: r)) _ rfl (by omega) (by omega) rfl _ (fun _ => l_sg3 x y (x.drop 2) (zV (x :: y :: z :: r)) _ rfl (by omega) (by omega))
    simp only [bT]
    generalize zV (x :: y :: z :: r) = ws at *
    cases hg : geW x <;> rw [hg] at L <;> simp only [cond_true, cond_false] at L
    all_goals
      apply zw
      refine zy rfl Tryz.func111 rfl (by kernel_rfl) ?_
      unfold Tryz.f111
      simp (disch := ((try simp only [LL]); omega)) only [↓GO, ↓DRW, GA, ren, zA, zd, refs, zb, cst, zl, zG, z7, E.load, E.store, zF, isC, bin, zH, zI, una, z8, za, zh, zJ, blt, fnV, asArg, ze, zn, zo, zj, zi, zg, zk, zr, z6, zD, zE, E.mkS, zc, unN, zK, zm, zz, zB, zf, zL, zq, GS, simprocAttr, GZ, h1, L, zZ]
end Go.Proofs.YtmcephnfcciloaaGreatDoor
/- Ranges, by the reference: the whole. Conditions: those of each lemma. -/
namespace Go.Proofs.YtmcephnfcciloaaGreatDoor
open E
set_option linter.unusedSimpArgs false
set_option linter.unusedVariables false
set_option maxRecDepth 100000
set_option maxHeartbeats 4000000 in
theorem Sk (s : Str) (hl : s.length ≤ 1048576) : zC (EV Tryz.prog pol) 86 [.t (.str s)] = some (bT (xT s)) := by
  have hs := Wz s (by omega)
  have ha := dF s (by omega)
  rw [Q3] at ha
  have hsh := WA s (by omega)
  have hd1 : (s.drop 1).length ≤ s.length := by rw [List.length_drop]; omega
  have hrv := ni (s.drop 1) (by omega)
  obtain ⟨m1, m2, m3, m4, m5, m6, m7⟩ := x7 (s.drop 1) (by omega)
  have hf1 := UX (s.drop 1) (zM (s.drop 1)).1 1 m1 (by omega) ⟨m3, m2⟩ ⟨m5, m4⟩ ⟨m7, m6⟩
  have hf2 := UX (s.drop 1) (zM (s.drop 1)).1 (u6 (zM (s.drop 1)).1) m1 (YG _) ⟨m3, m2⟩ ⟨m5, m4⟩ ⟨m7, m6⟩
  have hc := WL (zM (s.drop 1)).1
  unfold rvT at hrv
  rw [show (zM (s.drop 1)).2 = isV (s.drop 1) from rfl] at hrv
  unfold xT
  generalize uq s = sg at *
  generalize x6 s = ex at *
  generalize wY s = sh at *
  generalize isV (s.drop 1) = iv at *
  generalize u6 (zM (s.drop 1)).1 = cr at *
  generalize hfd : lN (zM (s.drop 1)).1 (s.drop 1) 1 = f1 at *
  generalize hfc : lN (zM (s.drop 1)).1 (s.drop 1) cr = f2 at *
  generalize (zM (s.drop 1)).1 = v at *
  simp only [Ver.enc, List.map_cons, List.map_nil] at hrv hf1 hf2 hc
  cases h42 : (s == [42]) with
  | true =>
    simp only [cond_true, bT]
    apply zw
    refine zy rfl Tryz.func86 rfl (by kernel_rfl) ?_
    unfold Tryz.f86
    simp (disch := ((try simp only [LL]); omega)) only [↓GO, ↓DRW, GA, ren, zA, zd, refs, zb, cst, zl, zG, z7, E.load, E.store, zF, isC, bin, zH, zI, una, z8, za, zh, zJ, blt, fnV, asArg, ze, zn, zo, zj, zi, zg, zk, zr, z6, zD, zE, E.mkS, zc, unN, zK, zm, zz, zB, zf, zL, zq, GS, simprocAttr, GZ, h42]
  | false =>
    simp only [cond_false]
    match s with
    | [] =>
      have z1 : decide ((([] : Str).length : Int) > 1) = false := rfl
      have z0 : decide ((([] : Str).length : Int) > 0) = false := rfl
      rw [z1, z0]
      simp only [Bool.false_and, cond_false]
      cases ex <;> cases sh <;> simp only [bT] at ha hsh ⊢
      all_goals
        apply zw
        refine zy rfl Tryz.func86 rfl (by kernel_rfl) ?_
        unfold Tryz.f86
        simp (disch := ((try simp only [LL]); omega)) only [↓GO, ↓DRW, GA, ren, zA, zd, refs, zb, cst, zl, zG, z7, E.load, E.store, zF, isC, bin, zH, zI, una, z8, za, zh, zJ, blt, fnV, asArg, ze, zn, zo, zj, zi, zg, zk, zr, z6, zD, zE, E.mkS, zc, unN, zK, zm, zz, zB, zf, zL, zq, GS, simprocAttr, GZ, h42, z1, z0, ha, hsh]
    | x :: r =>
      have z0 : decide (((x :: r).length : Int) > 0) = true := by apply decide_eq_true; simp only [List.length_cons]; omega
      have h0 : (x :: r)[0]? = some x := rfl
      have h94 := lM x 94
      have h126 := lM x 126
      have h62 := lM x 62
      have h60 := lM x 60
      rw [show (((94 : UInt8).toNat : Nat) : Int) = 94 from rfl] at h94
      rw [show (((126 : UInt8).toNat : Nat) : Int) = 126 from rfl] at h126
      rw [show (((62 : UInt8).toNat : Nat) : Int) = 62 from rfl] at h62
      rw [show (((60 : UInt8).toNat : Nat) : Int) = 60 from rfl] at h60
      have hx1 : 1 ≤ (x :: r).length := by simp
      simp only [hdB]
      rw [z0]
      generalize x :: r = xs at *
      cases z1 : decide ((xs.length : Int) > 1)
      · simp only [Bool.true_and, Bool.false_and, Bool.or_true, Bool.or_false, Bool.true_or, Bool.false_or, cond_true, cond_false, hfc, hfd]
        cases e62 : (x == 62) <;> rw [e62] at h62
        · cases e60 : (x == 60) <;> rw [e60] at h60 <;> simp only [Bool.true_and, Bool.false_and, Bool.or_true, Bool.or_false, Bool.true_or, Bool.false_or, cond_true, cond_false, hfc, hfd]
          · cases ex <;> cases sh <;> simp only [bT] at ha hsh ⊢
            all_goals
              apply zw
              refine zy rfl Tryz.func86 rfl (by kernel_rfl) ?_
              unfold Tryz.f86
              simp (disch := ((try simp only [LL]); omega)) only [↓GO, ↓DRW, GA, ren, zA, zd, refs, zb, cst, zl, zG, z7, E.load, E.store, zF, isC, bin, zH, zI, una, z8, za, zh, zJ, blt, fnV, asArg, ze, zn, zo, zj, zi, zg, zk, zr, z6, zD, zE, E.mkS, zc, unN, zK, zm, zz, zB, zf, zL, zq, GS, simprocAttr, GZ, h42, z1, z0, h0, h62, h60, ha, hsh, zZ]
          · cases sg <;> simp only [bT] at hs ⊢
            all_goals
              apply zw
              refine zy rfl Tryz.func86 rfl (by kernel_rfl) ?_
              unfold Tryz.f86
              simp (disch := ((try simp only [LL]); omega)) only [↓GO, ↓DRW, GA, ren, zA, zd, refs, zb, cst, zl, zG, z7, E.load, E.store, zF, isC, bin, zH, zI, una, z8, za, zh, zJ, blt, fnV, asArg, ze, zn, zo, zj, zi, zg, zk, zr, z6, zD, zE, E.mkS, zc, unN, zK, zm, zz, zB, zf, zL, zq, GS, simprocAttr, GZ, h42, z1, z0, h0, h62, h60, hs, zZ]
        · simp only [Bool.true_and, Bool.false_and, Bool.or_true, Bool.or_false, Bool.true_or, Bool.false_or, cond_true, cond_false, hfc, hfd]
          cases sg <;> simp only [bT] at hs ⊢
          all_goals
            apply zw
            refine zy rfl Tryz.func86 rfl (by kernel_rfl) ?_
            unfold Tryz.f86
            simp (disch := ((try simp only [LL]); omega)) only [↓GO, ↓DRW, GA, ren, zA, zd, refs, zb, cst, zl, zG, z7, E.load, E.store, zF, isC, bin, zH, zI, una, z8, za, zh, zJ, blt, fnV, asArg, ze, zn, zo, zj, zi, zg, zk, zr, z6, zD, zE, E.mkS, zc, unN, zK, zm, zz, zB, zf, zL, zq, GS, simprocAttr, GZ, h42, z1, z0, h0, h62, hs, zZ]
      · cases e94 : (x == 94) <;> rw [e94] at h94
        · cases e126 : (x == 126) <;> rw [e126] at h126 <;> simp only [Bool.true_and, Bool.false_and, Bool.or_true, Bool.or_false, Bool.true_or, Bool.false_or, cond_true, cond_false, hfc, hfd]
          · cases e62 : (x == 62) <;> rw [e62] at h62
            · cases e60 : (x == 60) <;> rw [e60] at h60 <;> simp only [Bool.true_and, Bool.false_and, Bool.or_true, Bool.or_false, Bool.true_or, Bool.false_or, cond_true, cond_false, hfc, hfd]
              · cases ex <;> cases sh <;> simp only [bT] at ha hsh ⊢
                all_goals
                  apply zw
                  refine zy rfl Tryz.func86 rfl (by kernel_rfl) ?_
                  unfold Tryz.f86
                  simp (disch := ((try simp only [LL]); omega)) only [↓GO, ↓DRW, GA, ren, zA, zd, refs, zb, cst, zl, zG, z7, E.load, E.store, zF, isC, bin, zH, zI, una, z8, za, zh, zJ, blt, fnV, asArg, ze, zn, zo, zj, zi, zg, zk, zr, z6, zD, zE, E.mkS, zc, unN, zK, zm, zz, zB, zf, zL, zq, GS, simprocAttr, GZ, h42, z1, z0, h0, h94, h126, h62, h60, ha, hsh, zZ]
              · cases sg <;> simp only [bT] at hs ⊢
                all_goals
                  apply zw
                  refine zy rfl Tryz.func86 rfl (by kernel_rfl) ?_
                  unfold Tryz.f86
                  simp (disch := ((try simp only [LL]); omega)) only [↓GO, ↓DRW, GA, ren, zA, zd, refs, zb, cst, zl, zG, z7, E.load, E.store, zF, isC, bin, zH, zI, una, z8, za, zh, zJ, blt, fnV, asArg, ze, zn, zo, zj, zi, zg, zk, zr, z6, zD, zE, E.mkS, zc, unN, zK, zm, zz, zB, zf, zL, zq, GS, simprocAttr, GZ, h42, z1, z0, h0, h94, h126, h62, h60, hs, zZ]
            · simp only [Bool.true_and, Bool.false_and, Bool.or_true, Bool.or_false, Bool.true_or, Bool.false_or, cond_true, cond_false, hfc, hfd]
              cases sg <;> simp only [bT] at hs ⊢
              all_goals
                apply zw
                refine zy rfl Tryz.func86 rfl (by kernel_rfl) ?_
                unfold Tryz.f86
                simp (disch := ((try simp only [LL]); omega)) only [↓GO, ↓DRW, GA, ren, zA, zd, refs, zb, cst, zl, zG, z7, E.load, E.store, zF, isC, bin, zH, zI, una, z8, za, zh, zJ, blt, fnV, asArg, ze, zn, zo, zj, zi, zg, zk, zr, z6, zD, zE, E.mkS, zc, unN, zK, zm, zz, zB, zf, zL, zq, GS, simprocAttr, GZ, h42, z1, z0, h0, h94, h126, h62, hs, zZ]
          · cases iv <;> simp only [Bool.not_true, Bool.not_false, cond_true, cond_false, bT] at hrv ⊢
            · apply zw
              refine zy rfl Tryz.func86 rfl (by kernel_rfl) ?_
              unfold Tryz.f86
              simp (disch := ((try simp only [LL]); omega)) only [↓GO, ↓DRW, GA, ren, zA, zd, refs, zb, cst, zl, zG, z7, E.load, E.store, zF, isC, bin, zH, zI, una, z8, za, zh, zJ, blt, fnV, asArg, ze, zn, zo, zj, zi, zg, zk, zr, z6, zD, zE, E.mkS, zc, unN, zK, zm, zz, zB, zf, zL, zq, GS, simprocAttr, GZ, h42, z1, z0, h0, h94, h126, hrv, hx1, zZ]
            · cases f1 <;> simp only [bT] at hf1 ⊢
              all_goals
                apply zw
                refine zy rfl Tryz.func86 rfl (by kernel_rfl) ?_
                unfold Tryz.f86
                simp (disch := ((try simp only [LL]); omega)) only [↓GO, ↓DRW, GA, ren, zA, zd, refs, zb, cst, zl, zG, z7, E.load, E.store, zF, isC, bin, zH, zI, una, z8, za, zh, zJ, blt, fnV, asArg, ze, zn, zo, zj, zi, zg, zk, zr, z6, zD, zE, E.mkS, zc, unN, zK, zm, zz, zB, zf, zL, zq, GS, simprocAttr, GZ, h42, z1, z0, h0, h94, h126, hrv, hf1, hx1, zZ]
                refine yP (by kernel_rfl) ?_
                rfl
        · cases e126 : (x == 126) <;> rw [e126] at h126 <;> simp only [Bool.true_and, Bool.false_and, Bool.or_true, Bool.or_false, Bool.true_or, Bool.false_or, cond_true, cond_false, hfc, hfd] <;> cases iv <;> simp only [Bool.not_true, Bool.not_false, cond_true, cond_false, bT] at hrv ⊢
          · apply zw
            refine zy rfl Tryz.func86 rfl (by kernel_rfl) ?_
            unfold Tryz.f86
            simp (disch := ((try simp only [LL]); omega)) only [↓GO, ↓DRW, GA, ren, zA, zd, refs, zb, cst, zl, zG, z7, E.load, E.store, zF, isC, bin, zH, zI, una, z8, za, zh, zJ, blt, fnV, asArg, ze, zn, zo, zj, zi, zg, zk, zr, z6, zD, zE, E.mkS, zc, unN, zK, zm, zz, zB, zf, zL, zq, GS, simprocAttr, GZ, h42, z1, z0, h0, h94, h126, hrv, hx1, zZ]
          · cases f2 <;> simp only [bT] at hf2 ⊢
            all_goals
              apply zw
              refine zy rfl Tryz.func86 rfl (by kernel_rfl) ?_
              unfold Tryz.f86
              simp (disch := ((try simp only [LL]); omega)) only [↓GO, ↓DRW, GA, ren, zA, zd, refs, zb, cst, zl, zG, z7, E.load, E.store, zF, isC, bin, zH, zI, una, z8, za, zh, zJ, blt, fnV, asArg, ze, zn, zo, zj, zi, zg, zk, zr, z6, zD, zE, E.mkS, zc, unN, zK, zm, zz, zB, zf, zL, zq, GS, simprocAttr, GZ, h42, z1, z0, h0, h94, h126, hrv, hc, hf2, hx1, zZ]
              refine yP (by kernel_rfl) ?_
              rfl
          · apply zw
            refine zy rfl Tryz.func86 rfl (by kernel_rfl) ?_
            unfold Tryz.f86
            simp (disch := ((try simp only [LL]); omega)) only [↓GO, ↓DRW, GA, ren, zA, zd, refs, zb, cst, zl, zG, z7, E.load, E.store, zF, isC, bin, zH, zI, una, z8, za, zh, zJ, blt, fnV, asArg, ze, zn, zo, zj, zi, zg, zk, zr, z6, zD, zE, E.mkS, zc, unN, zK, zm, zz, zB, zf, zL, zq, GS, simprocAttr, GZ, h42, z1, z0, h0, h94, h126, hrv, hx1, zZ]
          · cases f1 <;> simp only [bT] at hf1 ⊢
            all_goals
              apply zw
              refine zy rfl Tryz.func86 rfl (by kernel_rfl) ?_
              unfold Tryz.f86
              simp (disch := ((try simp only [LL]); omega)) only [↓GO, ↓DRW, GA, ren, zA, zd, refs, zb, cst, zl, zG, z7, E.load, E.store, zF, isC, bin, zH, zI, una, z8, za, zh, zJ, blt, fnV, asArg, ze, zn, zo, zj, zi, zg, zk, zr, z6, zD, zE, E.mkS, zc, unN, zK, zm, zz, zB, zf, zL, zq, GS, simprocAttr, GZ, h42, z1, z0, h0, h94, h126, hrv, hc, hf1, hx1, zZ]
              refine yP (by kernel_rfl) ?_
              rfl
end Go.Proofs.YtmcephnfcciloaaGreatDoor
/- Ranges, by the reference: parts cut, all; notices. Conditions: those of each lemma. -/
namespace Go.Proofs.YtmcephnfcciloaaGreatDoor
open E
set_option linter.unusedSimpArgs false
set_option linter.unusedVariables false
set_option maxRecDepth 100000
def glue (c : Str) : List Str → List Str
  | p :: r => (c ++ p) :: r
  | [] => []
theorem eM : ∀ l : List Str, glue [] l = l
  | [] => rfl
  | p :: r => rfl
theorem lq : ∀ (k : Nat) (s : Str), s.length < 4 → k ≤ s.length → yY k s = [s.drop k]
  | k, [], _, h => by
    have : k = 0 := by simpa using h
    subst this; rfl
  | 0, x :: r, h, _ => by
    have hp : wS.isPrefixOf (x :: r) = false := by
      cases h2 : wS.isPrefixOf (x :: r) with
      | false => rfl
      | true => have := SN h2; omega
    have ih := lq 0 r (by simp only [List.length_cons] at h; omega) (by omega)
    rw [uG x r r [] hp ih]; rfl
  | k + 1, x :: r, h, hk => by
    rw [yY, lq k r (by simp only [List.length_cons] at h; omega) (by simpa using hk)]; rfl
theorem cp (s : Str) (h : 4 ≤ s.length) : wS.isPrefixOf s = (s.take 4 == wS) := by
  match s, h with
  | a :: b :: c :: d :: r, _ =>
    unfold wS
    rw [Bool.eq_iff_iff]
    simp [List.isPrefixOf]
    constructor
    · rintro ⟨h1, h2, h3, h4⟩; exact ⟨h1.symm, h2.symm, h3.symm, h4.symm⟩
    · rintro ⟨h1, h2, h3, h4⟩; exact ⟨h1.symm, h2.symm, h3.symm, h4.symm⟩
theorem qJ (s : Str) (hl : s.length ≤ 4194304) : ∀ (n f m : Nat) (out : List Str) (cap : Option Nat), s.length - m = n → f ≤ s.length → m ≤ s.length → out.length ≤ m →
    ∃ (out' : List Str) (fr : Nat) (cap' : Option Nat), out'.length ≤ s.length ∧ fr ≤ s.length ∧ out' ++ [s.drop fr] = out ++ glue ((s.drop f).take (m - f)) (yY (f - m) (s.drop m)) ∧
      EV Tryz.prog pol (.loop 85 122 0 [.t (.str s), .sl 0 0 out.length cap, .t (.int .i64 (f : Int)), .t (.int .i64 (m : Int))] [.ts 1 (zV out)]) = some (.loop (.exit 0) [.t (.str s), .sl 0 0 out'.length cap', .t (.int .i64 (fr : Int))] [.ts 1 (zV out')])
  | n, f, m, out, cap, hn, hf, hm, ho => by
    by_cases hc : m + 4 ≤ s.length
    · have c : decide ((m : Int) + 4 ≤ (s.length : Int)) = true := decide_eq_true (by omega)
      have e4 : ((m : Int) + 4) = ((m + 4 : Nat) : Int) := by omega
      have e1 : ((m : Int) + 1) = ((m + 1 : Nat) : Int) := by omega
      have hdl : (s.drop m).length = s.length - m := List.length_drop
      obtain ⟨x, r, hx⟩ : ∃ x r, s.drop m = x :: r := by
        cases h : s.drop m with
        | nil => rw [h] at hdl; simp at hdl; omega
        | cons x r => exact ⟨x, r, rfl⟩
      have hr : s.drop (m + 1) = r := by rw [← List.drop_drop, hx]; rfl
      by_cases hfm : f ≤ m
      · have g : decide ((m : Int) ≥ (f : Int)) = true := decide_eq_true (by omega)
        have hk : f - m = 0 := by omega
        have ht := cp (s.drop m) (by omega)
        have hN : ((m : Int) + 4).toNat - m = 4 := by omega
        have hN2 : ((m : Int) + 4).toNat = m + 4 := by omega
        have hol : out.length ≤ 4194304 := by omega
        cases hp : wS.isPrefixOf (s.drop m) with
        | true =>
          obtain ⟨out', fr, cap', q1, q2, q3, q4⟩ := qJ s hl (n - 1) (m + 4) (m + 1) (out ++ [(s.drop f).take (m - f)]) none (by omega) (by omega) (by omega) (by simp; omega)
          refine ⟨out', fr, cap', q1, q2, ?_, ?_⟩
          · rw [q3, hr, show m + 4 - (m + 1) = 3 by omega, show m + 1 - (m + 4) = 0 by omega, hk, hx, lp x r (by rw [← hx]; exact hp)]
            rw [show glue ((s.drop f).take (m - f)) ([] :: yY 3 r) = ((s.drop f).take (m - f) ++ []) :: yY 3 r from rfl, List.take_zero, eM, List.append_nil, List.append_assoc]; rfl
          · rw [hp] at ht
            rw [uM, xp, yf, List.length_append, List.length_cons, List.length_nil, Nat.zero_add, ← e4, ← e1] at q4
            have ht' : ((s.drop m).take 4 == [32, 124, 124, 32]) = true := ht.symm
            clear hx hr q3
            refine zu Tryz.func85 rfl rfl ?_
            simp (disch := ((try simp only [LL]); omega)) only [↓GO, ↓DRW, GA, ren, zA, zd, refs, zb, cst, zl, zG, z7, E.load, E.store, zF, isC, bin, zH, zI, una, z8, za, zh, zJ, blt, fnV, asArg, ze, zn, zo, zj, zi, zg, zk, zr, z6, zD, zE, E.mkS, zc, unN, zK, zm, zz, zB, zf, zL, zq, GS, simprocAttr, GZ, c, g, hN, ht', zx, q4, zO, xK]
        | false =>
          obtain ⟨out', fr, cap', q1, q2, q3, q4⟩ := qJ s hl (n - 1) f (m + 1) out cap (by omega) (by omega) (by omega) (by omega)
          refine ⟨out', fr, cap', q1, q2, ?_, ?_⟩
          · rw [q3, hr, hk, show f - (m + 1) = 0 by omega, hx]
            have htk : (s.drop f).take (m + 1 - f) = (s.drop f).take (m - f) ++ [x] := by
              have hdd : (s.drop f).drop (m - f) = x :: r := by rw [List.drop_drop, show f + (m - f) = m by omega]; exact hx
              rw [show m + 1 - f = (m - f) + 1 by omega, List.take_add, hdd]; rfl
            rw [htk]
            cases h0 : yY 0 r with
            | nil => exact absurd h0 (qZ 0 r)
            | cons p q => rw [uG x r p q (by rw [← hx]; exact hp) h0]; simp [glue]
          · rw [hp] at ht
            rw [← e1] at q4
            have ht' : ((s.drop m).take 4 == [32, 124, 124, 32]) = false := ht.symm
            clear hx hr q3
            refine zu Tryz.func85 rfl rfl ?_
            simp (disch := ((try simp only [LL]); omega)) only [↓GO, ↓DRW, GA, ren, zA, zd, refs, zb, cst, zl, zG, z7, E.load, E.store, zF, isC, bin, zH, zI, una, z8, za, zh, zJ, blt, fnV, asArg, ze, zn, zo, zj, zi, zg, zk, zr, z6, zD, zE, E.mkS, zc, unN, zK, zm, zz, zB, zf, zL, zq, GS, simprocAttr, GZ, c, g, hN, ht', zx, q4, zO, xK]
      · have g : decide ((m : Int) ≥ (f : Int)) = false := decide_eq_false (by omega)
        obtain ⟨out', fr, cap', q1, q2, q3, q4⟩ := qJ s hl (n - 1) f (m + 1) out cap (by omega) (by omega) (by omega) (by omega)
        refine ⟨out', fr, cap', q1, q2, ?_, ?_⟩
        · rw [q3, hr, show m + 1 - f = 0 by omega, show m - f = 0 by omega, hx, show f - m = (f - (m + 1)) + 1 by omega, yY]
        · rw [← e1] at q4
          clear hx hr q3
          refine zu Tryz.func85 rfl rfl ?_
          simp (disch := ((try simp only [LL]); omega)) only [↓GO, ↓DRW, GA, ren, zA, zd, refs, zb, cst, zl, zG, z7, E.load, E.store, zF, isC, bin, zH, zI, una, z8, za, zh, zJ, blt, fnV, asArg, ze, zn, zo, zj, zi, zg, zk, zr, z6, zD, zE, E.mkS, zc, unN, zK, zm, zz, zB, zf, zL, zq, GS, simprocAttr, GZ, c, g, zx, q4, zO, xK]
    · have c : decide ((m : Int) + 4 ≤ (s.length : Int)) = false := decide_eq_false (by omega)
      refine ⟨out, f, cap, by omega, hf, ?_, ?_⟩
      · have hdl : (s.drop m).length = s.length - m := List.length_drop
        rw [lq (f - m) (s.drop m) (by omega) (by omega)]
        simp only [glue, List.drop_drop]
        by_cases hfm : f ≤ m
        · rw [show f - m = 0 by omega, Nat.add_zero]
          congr 2
          have := List.take_append_drop (m - f) (s.drop f)
          rw [List.drop_drop, show f + (m - f) = m by omega] at this
          exact this.symm
        · rw [show m - f = 0 by omega, show m + (f - m) = f by omega]; rfl
      · refine zu Tryz.func85 rfl rfl ?_
        simp (disch := ((try simp only [LL]); omega)) only [↓GO, ↓DRW, GA, ren, zA, zd, refs, zb, cst, zl, zG, z7, E.load, E.store, zF, isC, bin, zH, zI, una, z8, za, zh, zJ, blt, fnV, asArg, ze, zn, zo, zj, zi, zg, zk, zr, z6, zD, zE, E.mkS, zc, unN, zK, zm, zz, zB, zf, zL, zq, GS, simprocAttr, GZ, c, zx]
termination_by n f m => s.length - m
decreasing_by all_goals omega
theorem WD (s : Str) (hl : s.length ≤ 4194304) : zC (EV Tryz.prog pol) 85 [.t (.str s)] = some (.t (.list 1 (zV (yY 0 s)))) := by
  obtain ⟨out, fr, cap, q1, q2, q3, q4⟩ := qJ s hl s.length 0 0 [] (some 0) (by omega) (by omega) (by omega) (by simp)
  simp only [List.nil_append, List.length_nil, Int.natCast_zero, yf, List.drop_zero, Nat.sub_zero, List.take_zero, eM, Nat.sub_self] at q4 q3
  have ho : (zV out ++ [[.str (List.drop fr s)]]) = zV (yY 0 s) := by rw [← q3, uM]; rfl
  have ht : List.take (out.length + 1) (zV (yY 0 s)) = zV (yY 0 s) := List.take_of_length_le (by rw [zO, ← q3]; simp)
  apply zw
  refine zy rfl Tryz.func85 rfl (by kernel_rfl) ?_
  unfold Tryz.f85
  simp (disch := ((try simp only [LL]); omega)) only [↓GO, ↓DRW, GA, ren, zA, zd, refs, zb, cst, zl, zG, z7, E.load, E.store, zF, isC, bin, zH, zI, una, z8, za, zh, zJ, blt, fnV, asArg, ze, zn, zo, zj, zi, zg, zk, zr, z6, zD, zE, E.mkS, zc, unN, zK, zm, zz, zB, zf, zL, zq, GS, simprocAttr, GZ, q4, zO, xK, ho, ht]
end Go.Proofs.YtmcephnfcciloaaGreatDoor
/- Ranges, by the reference: the whole; notices; the law. Conditions: those of each lemma. -/
namespace Go.Proofs.YtmcephnfcciloaaGreatDoor
open E
set_option linter.unusedSimpArgs false
set_option linter.unusedVariables false
set_option maxRecDepth 100000
/-- how the reference's loop ends -/
def nd (ps : List Str) (acc : List Bd) (cap : Option Nat) (x : List Bd) : Option (List Bd) → xS
  | some bs => .loop (.exit 0) [.bad, .bad, .sl 0 0 (acc.length + bs.length) cap] [.ts 2 (bdT (acc ++ bs))]
  | none => .loop .ret [.sl 0 0 0 (some 0), .t (.bool false), .sl 1 0 x.length cap] [.ts 2 [], .ts 2 (bdT x)]
theorem SV (ps : List Str) (hl : ps.length ≤ 1048577) (hb : ∀ p ∈ ps, p.length ≤ 1048576) : ∀ (rest pre : List Str) (acc : List Bd) (cap : Option Nat) (m : Nat), ps = pre ++ rest → m = acc.length → acc.length = pre.length →
    ∃ cap' x, EV Tryz.prog pol (.loop 58 250 0 [.sl 0 0 m cap, .t (.list 1 (zV ps)), .t (.int .i64 (pre.length : Int))] [.ts 2 (bdT acc)]) = some (nd ps acc cap' x (u7 rest))
  | [], pre, acc, cap, m, hs, hm, ha => by
    have c : decide ((pre.length : Int) < (ps.length : Int)) = false := by simp [hs]
    refine ⟨cap, [], ?_⟩
    simp only [u7, nd, List.append_nil, List.length_nil, Nat.add_zero]
    subst hm
    refine zu Tryz.func58 rfl rfl ?_
    simp (disch := ((try simp only [LL]); omega)) only [↓GO, ↓DRW, GA, ren, zA, zd, refs, zb, cst, zl, zG, z7, E.load, E.store, zF, isC, bin, zH, zI, una, z8, za, zh, zJ, blt, fnV, asArg, ze, zn, zo, zj, zi, zg, zk, zr, z6, zD, zE, E.mkS, zc, unN, zK, zm, zz, zB, zf, zL, zq, GS, simprocAttr, GZ, c, zO, zZ]
  | p :: rest, pre, acc, cap, m, hs, hm, ha => by
    have c : decide ((pre.length : Int) < (ps.length : Int)) = true := by simp [hs]; omega
    have hget : (zV ps)[pre.length]? = some [.str p] := by rw [hs]; exact wL (fun s : Str => [T.str s]) pre p rest
    have hlen : pre.length + rest.length + 1 ≤ ps.length := by rw [hs]; simp; omega
    have hpb := hb p (by rw [hs]; simp)
    have hB := Sk p hpb
    have IHs := fun b => SV ps hl hb rest (pre ++ [p]) (acc ++ [b]) none (m + 1) (by rw [hs]; simp) (by simp [hm]) (by simp [ha])
    rw [show ((pre ++ [p]).length : Int) = (pre.length : Int) + 1 by simp] at IHs
    have hol : (bdT acc).length = m := by rw [xY, hm]
    have hml : m ≤ 1048578 := by omega
    have hpl : pre.length ≤ 1048577 := by omega
    clear hs hb
    simp only [u7]
    cases hp : xT p with
    | none =>
      rw [hp] at hB
      refine ⟨cap, acc, ?_⟩
      simp only [bT] at hB
      unfold nd
      simp only
      subst hm
      refine zu Tryz.func58 rfl rfl ?_
      simp (disch := ((try simp only [LL]); omega)) only [↓GO, ↓DRW, GA, ren, zA, zd, refs, zb, cst, zl, zG, z7, E.load, E.store, zF, isC, bin, zH, zI, una, z8, za, zh, zJ, blt, fnV, asArg, ze, zn, zo, zj, zi, zg, zk, zr, z6, zD, zE, E.mkS, zc, unN, zK, zm, zz, zB, zf, zL, zq, GS, simprocAttr, GZ, c, hget, hB, zx, hol, zO, zZ, xK]
    | some b =>
      obtain ⟨lo, hi⟩ := b
      rw [hp] at hB
      simp only [bT] at hB
      obtain ⟨cap', x, IH⟩ := IHs (lo, hi)
      refine ⟨cap', x, ?_⟩
      rw [ZL, show bdT [(lo, hi)] = [[T.str lo, T.str hi]] from rfl] at IH
      simp only
      rw [show nd ps (acc ++ [(lo, hi)]) cap' x (u7 rest) = nd ps acc cap' x (match u7 rest with | some bs => some ((lo, hi) :: bs) | none => none) by
        cases u7 rest with
        | none => rfl
        | some bs => simp only [nd]; rw [List.append_assoc]; simp only [List.length_append, List.length_cons, List.length_nil, List.cons_append, List.nil_append]; rw [show acc.length + (0 + 1) + bs.length = acc.length + (bs.length + 1) by omega]] at IH
      refine zu Tryz.func58 rfl rfl ?_
      simp (disch := ((try simp only [LL]); omega)) only [↓GO, ↓DRW, GA, ren, zA, zd, refs, zb, cst, zl, zG, z7, E.load, E.store, zF, isC, bin, zH, zI, una, z8, za, zh, zJ, blt, fnV, asArg, ze, zn, zo, zj, zi, zg, zk, zr, z6, zD, zE, E.mkS, zc, unN, zK, zm, zz, zB, zf, zL, zq, GS, simprocAttr, GZ, c, hget, hB, zx, hol, zO, IH, zZ, xK]
      try (cases u7 rest <;> rfl)
theorem R7 (s : Str) (hl : s.length ≤ 1048576) : zC (EV Tryz.prog pol) 58 [.t (.str s)] = some (rrT (wD s)) := by
  unfold wD
  have h1 := WD s (by omega)
  have hbk := uH 0 s
  have hcn : 1 ≤ (yY 0 s).length := by
    cases hc : yY 0 s with
    | nil => exact absurd hc (qZ 0 s)
    | cons p q => simp
  have hmem : ∀ p ∈ yY 0 s, p.length ≤ 1048576 := fun p hp => by have := wb hp; omega
  generalize yY 0 s = ps at *
  obtain ⟨cap, x, L⟩ := SV ps (by omega) hmem ps [] [] (some 0) 0 rfl rfl rfl
  rw [show bdT [] = [] from rfl] at L
  simp only [List.length_nil, Int.natCast_zero] at L
  have hpl : ps.length ≤ 1048577 := by omega
  cases h200 : decide ((s.length : Int) > 200) with
  | true =>
    simp only [Bool.true_or, cond_true, rrT]
    apply zw
    refine zy rfl Tryz.func58 rfl (by kernel_rfl) ?_
    unfold Tryz.f58
    simp (disch := ((try simp only [LL]); omega)) only [↓GO, ↓DRW, GA, ren, zA, zd, refs, zb, cst, zl, zG, z7, E.load, E.store, zF, isC, bin, zH, zI, una, z8, za, zh, zJ, blt, fnV, asArg, ze, zn, zo, zj, zi, zg, zk, zr, z6, zD, zE, E.mkS, zc, unN, zK, zm, zz, zB, zf, zL, zq, GS, simprocAttr, GZ, h1, h200, zO]
  | false =>
    cases h8 : decide ((ps.length : Int) > 8) with
    | true =>
      simp only [Bool.or_true, cond_true, rrT]
      apply zw
      refine zy rfl Tryz.func58 rfl (by kernel_rfl) ?_
      unfold Tryz.f58
      simp (disch := ((try simp only [LL]); omega)) only [↓GO, ↓DRW, GA, ren, zA, zd, refs, zb, cst, zl, zG, z7, E.load, E.store, zF, isC, bin, zH, zI, una, z8, za, zh, zJ, blt, fnV, asArg, ze, zn, zo, zj, zi, zg, zk, zr, z6, zD, zE, E.mkS, zc, unN, zK, zm, zz, zB, zf, zL, zq, GS, simprocAttr, GZ, h1, h200, h8, zO]
    | false =>
      simp only [Bool.or_false, cond_false]
      cases ha : u7 ps with
      | none =>
        rw [ha] at L
        simp only [nd, rrT] at L ⊢
        apply zw
        refine zy rfl Tryz.func58 rfl (by kernel_rfl) ?_
        unfold Tryz.f58
        simp (disch := ((try simp only [LL]); omega)) only [↓GO, ↓DRW, GA, ren, zA, zd, refs, zb, cst, zl, zG, z7, E.load, E.store, zF, isC, bin, zH, zI, una, z8, za, zh, zJ, blt, fnV, asArg, ze, zn, zo, zj, zi, zg, zk, zr, z6, zD, zE, E.mkS, zc, unN, zK, zm, zz, zB, zf, zL, zq, GS, simprocAttr, GZ, h1, h200, h8, L, zO, zZ]
      | some l =>
        have hll := (r7 ps l ha).2
        rw [ha] at L
        simp only [nd, List.nil_append, List.length_nil, Nat.zero_add] at L ⊢
        have ht : (bdT l).take l.length = bdT l := List.take_of_length_le (by rw [xY]; omega)
        simp only [rrT]
        apply zw
        refine zy rfl Tryz.func58 rfl (by kernel_rfl) ?_
        unfold Tryz.f58
        simp (disch := ((try simp only [LL]); omega)) only [↓GO, ↓DRW, GA, ren, zA, zd, refs, zb, cst, zl, zG, z7, E.load, E.store, zF, isC, bin, zH, zI, una, z8, za, zh, zJ, blt, fnV, asArg, ze, zn, zo, zj, zi, zg, zk, zr, z6, zD, zE, E.mkS, zc, unN, zK, zm, zz, zB, zf, zL, zq, GS, simprocAttr, GZ, h1, h200, h8, L, zO, ht, xY, zZ]
def xO (x : zt) : Bool := (wD x.range).isSome && (vx x.name && (wJ x.text && !(x.text == [])))
theorem fy (o : Option (List Bd)) : ∃ t, rrT o = .tup [.t t, .t (.bool o.isSome)] := by
  cases o with
  | none => exact ⟨_, rfl⟩
  | some l => exact ⟨_, rfl⟩
theorem c_noR (x : zt) (hb : x.yg ≤ 1048576) : zC (EV Tryz.prog pol) 59 [.agg (x.enc.map .t)] = some (.t (.bool (xO x))) := by
  obtain ⟨name, range, text⟩ := x
  simp only [zt.yg] at hb
  have h1 := R7 range (by omega)
  have h2 := ZE name (by omega)
  have h3 := dB text (by omega)
  obtain ⟨t, ht⟩ := fy (wD range)
  rw [ht] at h1
  unfold xO
  simp only [zt.enc, List.map_cons, List.map_nil]
  generalize (wD range).isSome = b1 at *
  generalize vx name = b2 at *
  generalize wJ text = b3 at *
  cases b2 <;> cases b1 <;> cases b3 <;> cases hn : (text == [])
  all_goals
    apply zw
    refine zy rfl Tryz.func59 rfl (by kernel_rfl) ?_
    unfold Tryz.f59
    simp (disch := ((try simp only [LL]); omega)) only [↓GO, ↓DRW, GA, ren, zA, zd, refs, zb, cst, zl, zG, z7, E.load, E.store, zF, isC, bin, zH, zI, una, z8, za, zh, zJ, blt, fnV, asArg, ze, zn, zo, zj, zi, zg, zk, zr, z6, zD, zE, E.mkS, zc, unN, zK, zm, zz, zB, zf, zL, zq, GS, simprocAttr, GZ, h1, h2, h3, hn, bne]
theorem c_noI (x : zt) (hb : x.yg ≤ 1048576) : zC (EV Tryz.prog pol) 65 [.agg (x.enc.map .t)] = some (.t (.bool (xO x))) := by
  obtain ⟨name, range, text⟩ := x
  simp only [zt.yg] at hb
  have h1 := R8 range (by omega)
  rw [me] at h1
  have h2 := ZF name (by omega)
  have h3 := dC text (by omega)
  obtain ⟨t, ht⟩ := fy (wD range)
  rw [ht] at h1
  unfold xO
  simp only [zt.enc, List.map_cons, List.map_nil]
  generalize (wD range).isSome = b1 at *
  generalize vx name = b2 at *
  generalize wJ text = b3 at *
  cases b2 <;> cases b1 <;> cases b3 <;> cases hn : (text == [])
  all_goals
    apply zw
    refine zy rfl Tryz.func65 rfl (by kernel_rfl) ?_
    unfold Tryz.f65
    simp (disch := ((try simp only [LL]); omega)) only [↓GO, ↓DRW, GA, ren, zA, zd, refs, zb, cst, zl, zG, z7, E.load, E.store, zF, isC, bin, zH, zI, una, z8, za, zh, zJ, blt, fnV, asArg, ze, zn, zo, zj, zi, zg, zk, zr, z6, zD, zE, E.mkS, zc, unN, zK, zm, zz, zB, zf, zL, zq, GS, simprocAttr, GZ, h1, h2, h3, hn, bne]
end Go.Proofs.YtmcephnfcciloaaGreatDoor
/- What the laws' arguments are: Notice. Conditions: those of each lemma. -/
namespace Go.Proofs.YtmcephnfcciloaaGreatDoor
open E
set_option linter.unusedSimpArgs false
set_option linter.unusedVariables false
set_option maxRecDepth 100000
theorem YS {cs : List T} (h : WT Tryz.prog 48 cs) : ∃ x : zt, cs = x.enc ∧ x.ok := by
  obtain ⟨hl, hs⟩ := h.tu Tryz.underlying48
  have k0 : Tryz.prog.cellsOf 48 = 3 := by kernel_rfl
  have k1 : Tryz.prog.cellsOf 9 = 1 := by kernel_rfl
  rw [k0] at hl
  match cs, hl with
  | [y0, y1, y2], _ =>
    simp [k1] at hs
    obtain ⟨s0, s1, s2⟩ := hs
    obtain ⟨v0, e0, o0⟩ := s0.vE Tryz.underlying9
    obtain ⟨v1, e1, o1⟩ := s1.vE Tryz.underlying9
    obtain ⟨v2, e2, o2⟩ := s2.vE Tryz.underlying9
    simp at e0 e1 e2
    subst e0 e1 e2
    exact ⟨⟨v0, v1, v2⟩, rfl, ⟨o0, o1, o2⟩⟩
end Go.Proofs.YtmcephnfcciloaaGreatDoor
/- What the laws' arguments are: a graph and notices. Conditions: those of each lemma. -/
namespace Go.Proofs.YtmcephnfcciloaaGreatDoor
open E
set_option linter.unusedSimpArgs false
set_option linter.unusedVariables false
set_option maxRecDepth 100000
theorem cQ {cs : List T} (h : WT Tryz.prog 26 cs) : ∃ l : List zt, cs = [.list 3 (zt.zW l)] ∧ l.length ≤ 9223372036854775807 ∧ ∀ y ∈ l, y.ok := by
  obtain ⟨es, e1, e2, e3⟩ := h.qL Tryz.underlying26
  have k0 : Tryz.prog.cellsOf 48 = 3 := by kernel_rfl
  have key : ∀ es : List (List T), (∀ c ∈ es, WT Tryz.prog 48 c) → ∃ l : List zt, es = zt.zW l ∧ ∀ y ∈ l, y.ok := fun es => by
    induction es with
    | nil => exact fun _ => ⟨[], rfl, by simp⟩
    | cons c es ih =>
      intro h
      obtain ⟨l, a1, a2⟩ := ih fun c' hc => h c' (by simp [hc])
      obtain ⟨x, a3, a4⟩ := YS (h c (by simp))
      exact ⟨x :: l, by simp [zt.zW, a1, a3], by simpa using ⟨a4, a2⟩⟩
  obtain ⟨l, a1, a2⟩ := key es e3
  subst a1
  exact ⟨l, by rw [e1, k0], by rw [zt.zT] at e2; exact e2, a2⟩
/-- a graph and notices handed in -/
theorem dZ {xs : List V} (h : WTA Tryz.prog [25, 26] xs) : ∃ (g : zU) (ns : List zt), xs = [.agg (g.enc.map .t), .t (.list 3 (zt.zW ns))] ∧ g.ok ∧ ns.length ≤ 9223372036854775807 ∧ ∀ n ∈ ns, n.ok := by
  obtain ⟨cs, v, vs, rfl, h1, h2, h3⟩ := h.eC
  obtain ⟨cs', v', vs', rfl, h1', h2', h3'⟩ := h3.eC
  have := h3'.TZ
  subst this
  obtain ⟨g, rfl, ho⟩ := V3 h1
  obtain ⟨ns, rfl, hl, hon⟩ := cQ h1'
  obtain ⟨top, packs⟩ := g
  have e : y9 Tryz.prog 25 = true := by kernel_rfl
  have e' : y9 Tryz.prog 26 = false := by kernel_rfl
  rw [e] at h2
  rw [e'] at h2'
  simp [zh, zU.enc] at h2 h2'
  subst h2 h2'
  exact ⟨⟨top, packs⟩, ns, rfl, ho, hl, hon⟩
end Go.Proofs.YtmcephnfcciloaaGreatDoor
/- The laws' own functions over trees: sizes, comparisons. Conditions: those of each lemma. -/
namespace Go.Proofs.YtmcephnfcciloaaGreatDoor
open E
set_option linter.unusedSimpArgs false
set_option linter.unusedVariables false
set_option maxRecDepth 100000
end Go.Proofs.YtmcephnfcciloaaGreatDoor
/- Lists that own their memory, as rows; trees laid anew. Conditions: those of each lemma. -/
namespace Go.Proofs.YtmcephnfcciloaaGreatDoor
open E
set_option linter.unusedSimpArgs false
set_option linter.unusedVariables false
set_option maxRecDepth 100000
/-- a row whose lists are owned -/
def ocE (es : List (List T)) : List (List V) := es.map fun e => e.map oc
theorem qR (es : List (List T)) : (ocE es).length = es.length := by simp [ocE]
theorem aK (a b : List (List T)) : ocE (a ++ b) = ocE a ++ ocE b := by simp [ocE]
theorem sk (x : List T) (b : List (List T)) : ocE (x :: b) = x.map oc :: ocE b := rfl
theorem aJ : ocE [] = [] := rfl
theorem TD (x : T) : refs (oc x) = [] := by cases x <;> rfl
theorem fV : ∀ e : List T, refs.refss (e.map oc) = []
  | [] => rfl
  | x :: e => by simp only [List.map_cons, refs.refss, TD, fV e, List.nil_append]
theorem xh : ∀ es : List (List T), (ocE es).flatMap refs.refss = []
  | [] => rfl
  | e :: es => by rw [sk, List.flatMap_cons, fV, xh es]; rfl
theorem Rt (m : Nat → Option Nat) (x : T) : ren m (oc x) = oc x := by cases x <;> rfl
theorem aI (m : Nat → Option Nat) : ∀ e : List T, ren.rens m (e.map oc) = e.map oc
  | [] => rfl
  | x :: e => by simp only [List.map_cons, ren.rens, Rt, aI m e]
theorem xW (m : Nat → Option Nat) : ∀ es : List (List T), (ocE es).map (ren.rens m) = ocE es
  | [] => rfl
  | e :: es => by rw [sk, List.map_cons, aI, xW m es]
theorem mY (z : List V) (hz : refs.refss z = []) : ∀ k, (List.replicate k z).flatMap refs.refss = []
  | 0 => rfl
  | k + 1 => by rw [List.replicate_succ, List.flatMap_cons, hz, mY z hz k]; rfl
theorem az (m : Nat → Option Nat) (z : List V) (hz : ren.rens m z = z) (k : Nat) : (List.replicate k z).map (ren.rens m) = List.replicate k z := by rw [List.map_replicate, hz]
theorem qT {α : Type} (A B : List α) (x : α) (n : Nat) (h : A.length = n) : (A ++ x :: B)[n]? = some x := by
  rw [List.getElem?_append_right (by omega), h, Nat.sub_self]; rfl
theorem qS {α : Type} (A B : List α) (x y : α) (n : Nat) (h : A.length = n) : (A ++ x :: B).set n y = A ++ y :: B := by
  rw [List.set_append_right _ _ (by omega), h, Nat.sub_self]; rfl
theorem gv_oc (x : T) : gvC (oc x) = some x := by cases x <;> rfl
theorem UO : ∀ e : List T, dX (e.map oc) = some e
  | [] => rfl
  | x :: e => by simp only [List.map_cons, dX, gv_oc, UO e]
theorem UP : ∀ es : List (List T), gvE (ocE es) = some es
  | [] => rfl
  | e :: es => by rw [sk]; simp only [gvE, UO, UP es]
theorem XX (h : Heap) (x : T) : zi h (oc x) = some x := by cases x <;> rfl
theorem fo (h : Heap) : ∀ e : List T, xF h (e.map oc) = some e
  | [] => rfl
  | x :: e => by simp only [List.map_cons, xF, XX, fo h e]
theorem fq (h : Heap) : ∀ es : List (List T), u9 h (ocE es) = some es
  | [] => rfl
  | e :: es => by rw [sk]; simp only [u9, fo, fq h es]
theorem vT : ∀ l : List Str, pq (zV l) = true
  | [] => rfl
  | x :: l => by
    have := vT l
    unfold pq zV at this ⊢
    rw [List.map_cons, List.all_cons, this]; rfl
theorem ly (ks : List Str) (hl : ks.length ≤ 1048576) : EV Tryz.prog pol (.callO false 30 [.t (.list 1 (zV ks))] []) = some (.call (.sl 0 0 ks.length (some ks.length)) [.ts 1 (zV ks)]) := by
  refine yM Tryz.func30 rfl (by kernel_rfl) ?_
  unfold Tryz.f30
  have h1 : ¬ ((ks.length : Int) < 0) := by omega
  have h2 : ¬ (ks.length * 16 > 140737488355328) := by omega
  have h3 : ¬ (ks.length > 140737488355328) := by omega
  have hz : List.replicate ks.length [T.str []] = wB (zV ks) [.str []] 0 := by rw [tA, zO]
  have IH := oI ks hl ks.length 0 (by omega) (by omega)
  simp only [Int.natCast_zero] at IH
  simp (disch := omega) only [↓GO, ↓DRW, GA, ren, zA, zd, refs, zb, cst, zl, zG, z7, E.load, E.store, zF, isC, bin, zH, zI, una, z8, za, zh, zJ, blt, fnV, asArg, ze, zn, zo, zj, zi, zg, zk, zr, z6, zD, zE, E.mkS, zc, unN, zK, zm, zz, zB, zf, zL, zq, GS, simprocAttr, zO, Int.toNat_natCast, h1, h2, h3, hz, IH, ne_eq, not_true_eq_false]
end Go.Proofs.YtmcephnfcciloaaGreatDoor
/- Trees laid anew; marks. Conditions: those of each lemma. -/
namespace Go.Proofs.YtmcephnfcciloaaGreatDoor
open E
set_option linter.unusedSimpArgs false
set_option linter.unusedVariables false
set_option maxRecDepth 100000
def mkD : Nat → Nat → Str → Str
  | 0, _, out => out
  | n + 1, k, out => if k = 0 then out else mkD n (k / 10) (UInt8.ofNat (48 + k % 10) :: out)
/-- a number's mark -/
def mkT (k : Nat) : Str := if k = 0 then [109, 48] else 109 :: mkD k k []
theorem SY : ∀ (n k : Nat) (out : Str), k ≤ n → k ≤ 9223372036854775807 → out.length + k ≤ 9223372036854775000 →
    EV Tryz.prog pol (.loop 39 60 0 [.t (.int .i64 (k : Int)), .t (.str out)] []) = some (.loop (.exit 0) [.t (.str (mkD n k out))] [])
  | n, 0, out, h, h1, h2 => by
    have e : mkD n 0 out = out := by cases n <;> simp [mkD]
    rw [e]
    refine zu Tryz.func39 rfl rfl ?_
    simp (disch := ((try simp only [LL]); omega)) only [↓GO, ↓DRW, GA, ren, zA, zd, refs, zb, cst, zl, zG, z7, E.load, E.store, zF, isC, bin, zH, zI, una, z8, za, zh, zJ, blt, fnV, asArg, ze, zn, zo, zj, zi, zg, zk, zr, z6, zD, zE, E.mkS, zc, unN, zK, zm, zz, zB, zf, zL, zq, GS, simprocAttr, GZ, Int.natCast_zero]
  | 0, k + 1, out, h, h1, h2 => by omega
  | n + 1, k + 1, out, h, h1, h2 => by
    generalize hm : k + 1 = x at *
    have c : decide (((x : Nat) : Int) > 0) = true := by apply decide_eq_true; omega
    have e1 : ((x : Nat) : Int).tmod 10 = ((x % 10 : Nat) : Int) := (Int.ofNat_tmod x 10).symm
    have e2 : ((x : Nat) : Int).tdiv 10 = ((x / 10 : Nat) : Int) := (Int.ofNat_tdiv x 10).symm
    have hd : x % 10 < 10 := Nat.mod_lt _ (by omega)
    have IH := SY n (x / 10) (UInt8.ofNat (48 + x % 10) :: out) (by omega) (by omega) (by simp only [List.length_cons]; omega)
    have ex : mkD (n + 1) x out = mkD n (x / 10) (UInt8.ofNat (48 + x % 10) :: out) := by rw [mkD, if_neg (by omega)]
    rw [ex]
    have w1 : IntKind.i64.wrap (48 + ((x % 10 : Nat) : Int)) = ((48 + x % 10 : Nat) : Int) := by rw [zx (by omega)]; omega
    have w3 : IntKind.u8.wrap ((48 + x % 10 : Nat) : Int) = ((48 + x % 10 : Nat) : Int) := by
      have key : ∀ n : Fin 256, IntKind.u8.wrap (n.val : Int) = (n.val : Int) := by decide +kernel
      exact key ⟨48 + x % 10, by omega⟩
    have w2 : IntKind.i64.wrap ((x / 10 : Nat) : Int) = ((x / 10 : Nat) : Int) := zx (by omega)
    refine zu Tryz.func39 rfl rfl ?_
    simp (disch := ((try simp only [LL]); omega)) only [↓GO, ↓DRW, GA, ren, zA, zd, refs, zb, cst, zl, zG, z7, E.load, E.store, zF, isC, bin, zH, zI, una, z8, za, zh, zJ, blt, fnV, asArg, ze, zn, zo, zj, zi, zg, zk, zr, z6, zD, zE, E.mkS, zc, unN, zK, zm, zz, zB, zf, zL, zq, GS, simprocAttr, GZ, c, e1, e2, w1, w2, w3, conv, wX, bytesOf, Int.toNat_natCast, List.singleton_append, xK, IH]
end Go.Proofs.YtmcephnfcciloaaGreatDoor
/- Marks in lists of texts, in trees. Conditions: those of each lemma. -/
namespace Go.Proofs.YtmcephnfcciloaaGreatDoor
open E
set_option linter.unusedSimpArgs false
set_option linter.unusedVariables false
set_option maxRecDepth 100000
theorem km : zV [] = [] := rfl
theorem qf (k : Nat) (h : k ≤ 1099511627776) : zC (EV Tryz.prog pol) 39 [.t (.int .i64 (k : Int))] = some (.t (.str (mkT k))) := by
  have L := SY k k [] (Nat.le_refl _) (by omega) (by simp; omega)
  have hlen : (mkD k k []).length ≤ k := by
    have key : ∀ (n x : Nat) (out : Str), (mkD n x out).length ≤ n + out.length := fun n => by
      induction n with
      | zero => intro x out; simp [mkD]
      | succ n ih =>
        intro x out
        rw [mkD]
        split
        · omega
        · have := ih (x / 10) (UInt8.ofNat (48 + x % 10) :: out); simp only [List.length_cons] at this; omega
    have := key k k []; simpa using this
  unfold mkT
  by_cases h0 : k = 0
  · subst h0
    have c : decide (((0 : Nat) : Int) ≤ 0) = true := by decide
    rw [if_pos rfl]
    apply zw
    refine zy rfl Tryz.func39 rfl (by kernel_rfl) ?_
    unfold Tryz.f39
    simp (disch := ((try simp only [LL]); omega)) only [↓GO, ↓DRW, GA, ren, zA, zd, refs, zb, cst, zl, zG, z7, E.load, E.store, zF, isC, bin, zH, zI, una, z8, za, zh, zJ, blt, fnV, asArg, ze, zn, zo, zj, zi, zg, zk, zr, z6, zD, zE, E.mkS, zc, unN, zK, zm, zz, zB, zf, zL, zq, GS, simprocAttr, GZ, c, Int.natCast_zero]
  · have c : decide (((k : Nat) : Int) ≤ 0) = false := by apply decide_eq_false; omega
    rw [if_neg h0]
    generalize mkD k k [] = ms at *
    apply zw
    refine zy rfl Tryz.func39 rfl (by kernel_rfl) ?_
    unfold Tryz.f39
    simp (disch := ((try simp only [LL]); omega)) only [↓GO, ↓DRW, GA, ren, zA, zd, refs, zb, cst, zl, zG, z7, E.load, E.store, zF, isC, bin, zH, zI, una, z8, za, zh, zJ, blt, fnV, asArg, ze, zn, zo, zj, zi, zg, zk, zr, z6, zD, zE, E.mkS, zc, unN, zK, zm, zz, zB, zf, zL, zq, GS, simprocAttr, GZ, c, L, List.singleton_append, List.cons_append, List.nil_append, xK]
def mkS : Nat → Nat → List Str
  | 0, _ => []
  | n + 1, k => mkT k :: mkS n (k + 1)
theorem vD : ∀ n k, (mkS n k).length = n
  | 0, _ => rfl
  | n + 1, k => by rw [mkS, List.length_cons, vD n (k + 1)]
theorem eh : ∀ n k, mkS (n + 1) k = mkS n k ++ [mkT (k + n)]
  | 0, k => rfl
  | n + 1, k => by
    rw [mkS, eh n (k + 1), mkS, List.cons_append, show k + 1 + n = k + (n + 1) by omega]
theorem Z1 (ks : List Str) (hl : ks.length ≤ 134217728) (cap : Option Nat) (k : Nat) (hk : k ≤ 1073741824) : ∀ (rest pre : List Str), ks = pre ++ rest →
    EV Tryz.prog pol (.loop 17 26 1 [.sl 0 0 ks.length cap, .t (.int .i64 ((k + pre.length : Nat) : Int)), .t (.int .i64 (pre.length : Int))] [.ts 1 (zV (mkS pre.length k) ++ zV rest)])
      = some (.loop (.exit 0) [.t (.int .i64 ((k + ks.length : Nat) : Int))] [.ts 1 (zV (mkS ks.length k))])
  | [], pre, hs => by
    have c : decide ((pre.length : Int) < (ks.length : Int)) = false := by simp [hs]
    have e : ks = pre := by simpa using hs
    simp only [km, List.append_nil]
    refine zu Tryz.func17 rfl rfl ?_
    simp (disch := ((try simp only [LL]); omega)) only [↓GO, ↓DRW, GA, ren, zA, zd, refs, zb, cst, zl, zG, z7, E.load, E.store, zF, isC, bin, zH, zI, una, z8, za, zh, zJ, blt, fnV, asArg, ze, zn, zo, zj, zi, zg, zk, zr, z6, zD, zE, E.mkS, zc, unN, zK, zm, zz, zB, zf, zL, zq, GS, simprocAttr, GZ, c]
    rw [e]
  | x :: rest, pre, hs => by
    have c : decide ((pre.length : Int) < (ks.length : Int)) = true := by simp [hs]; omega
    have c0 : decide ((0 : Int) ≤ (pre.length : Int)) = true := by simp
    have hlen : pre.length + rest.length + 1 ≤ ks.length := by rw [hs]; simp; omega
    have hm := qf (k + pre.length) (by omega)
    have IH := Z1 ks hl cap k hk rest (pre ++ [x]) (by rw [hs]; simp)
    rw [show (pre ++ [x]).length = pre.length + 1 by simp, eh, show zV (mkS pre.length k ++ [mkT (k + pre.length)]) = zV (mkS pre.length k) ++ [[.str (mkT (k + pre.length))]] by simp [zV], List.append_assoc, List.cons_append, List.nil_append] at IH
    rw [show k + (pre.length + 1) = k + pre.length + 1 by omega] at IH
    have w : IntKind.i64.wrap (((k + pre.length : Nat) : Int) + 1) = ((k + pre.length + 1 : Nat) : Int) := by rw [zx (by omega)]; omega
    have w2 : IntKind.i64.wrap ((pre.length : Int) + 1) = ((pre.length + 1 : Nat) : Int) := by rw [zx (by omega)]; omega
    have hAl : (zV (mkS pre.length k)).length = pre.length := by rw [zO, vD]
    rw [show zV (x :: rest) = [.str x] :: zV rest from rfl]
    have hg1 := fun y => qT (zV (mkS pre.length k)) (zV rest) y pre.length hAl
    have hs1 := fun y z => qS (zV (mkS pre.length k)) (zV rest) y z pre.length hAl
    clear hs
    generalize zV (mkS pre.length k) = A at *
    generalize mkT (k + pre.length) = mt at *
    generalize k + pre.length = kp at *
    refine zu Tryz.func17 rfl rfl ?_
    simp (disch := ((try simp only [LL]); omega)) only [↓GO, ↓DRW, GA, ren, zA, zd, refs, zb, cst, zl, zG, z7, E.load, E.store, zF, isC, bin, zH, zI, una, z8, za, zh, zJ, blt, fnV, asArg, ze, zn, zo, zj, zi, zg, zk, zr, z6, zD, zE, E.mkS, zc, unN, zK, zm, zz, zB, zf, zL, zq, GS, simprocAttr, GZ, c, c0, if_true, Int.toNat_natCast, hm, hg1, hs1, w, w2, IH]
theorem iH (ks : List Str) (hl : ks.length ≤ 134217728) (cap : Option Nat) (k : Nat) (hk : k ≤ 1073741824) (n : Nat) (hn : n = ks.length) :
    EV Tryz.prog pol (.callO false 17 [.sl 0 0 n cap, .t (.int .i64 (k : Int))] [.ts 1 (zV ks)]) = some (.call (.t (.int .i64 ((k + ks.length : Nat) : Int))) [.ts 1 (zV (mkS ks.length k))]) := by
  subst hn
  have L := Z1 ks hl cap k hk ks [] rfl
  simp only [List.length_nil, Int.natCast_zero, mkS, km, List.nil_append, Nat.add_zero] at L
  refine yM Tryz.func17 rfl (by kernel_rfl) ?_
  unfold Tryz.f17
  simp (disch := ((try simp only [LL]); omega)) only [↓GO, ↓DRW, GA, ren, zA, zd, refs, zb, cst, zl, zG, z7, E.load, E.store, zF, isC, bin, zH, zI, una, z8, za, zh, zJ, blt, fnV, asArg, ze, zn, zo, zj, zi, zg, zk, zr, z6, zD, zE, E.mkS, zc, unN, zK, zm, zz, zB, zf, zL, zq, GS, simprocAttr, GZ, L]
end Go.Proofs.YtmcephnfcciloaaGreatDoor
/- Marks in trees. Conditions: those of each lemma. -/
namespace Go.Proofs.YtmcephnfcciloaaGreatDoor
open E
set_option linter.unusedSimpArgs false
set_option linter.unusedVariables false
set_option maxRecDepth 100000
end Go.Proofs.YtmcephnfcciloaaGreatDoor
/- Marks in trees, all; marks found again. Conditions: those of each lemma. -/
namespace Go.Proofs.YtmcephnfcciloaaGreatDoor
open E
set_option linter.unusedSimpArgs false
set_option linter.unusedVariables false
set_option maxRecDepth 100000
theorem Z6 (ks : List Str) (hl : ks.length ≤ 134217728) (k : Nat) (hk : k ≤ 1073741824) : ∀ (n i : Nat), i + n = ks.length → ks = mkS ks.length k →
    EV Tryz.prog pol (.loop 18 26 0 [.t (.list 1 (zV ks)), .t (.int .i64 ((k + i : Nat) : Int)), .t (.int .i64 (i : Int))] []) = some (.loop (.exit 0) [.t (.int .i64 ((k + ks.length : Nat) : Int)), .bad] [])
  | 0, i, hi, hm => by
    have c : decide ((i : Int) < (ks.length : Int)) = false := by apply decide_eq_false; omega
    have e : i = ks.length := by omega
    refine zu Tryz.func18 rfl rfl ?_
    simp (disch := ((try simp only [LL]); omega)) only [↓GO, ↓DRW, GA, ren, zA, zd, refs, zb, cst, zl, zG, z7, E.load, E.store, zF, isC, bin, zH, zI, una, z8, za, zh, zJ, blt, fnV, asArg, ze, zn, zo, zj, zi, zg, zk, zr, z6, zD, zE, E.mkS, zc, unN, zK, zm, zz, zB, zf, zL, zq, GS, simprocAttr, GZ, c, zO]
    rw [e]
  | n + 1, i, hi, hm => by
    have c : decide ((i : Int) < (ks.length : Int)) = true := by apply decide_eq_true; omega
    have hg : ∀ (m j q : Nat), j < m → (mkS m q)[j]? = some (mkT (q + j)) := fun m => by
      induction m with
      | zero => intro j q h; omega
      | succ m ih =>
        intro j q h
        cases j with
        | zero => rfl
        | succ j => rw [mkS, List.getElem?_cons_succ, ih j (q + 1) (by omega), show q + 1 + j = q + (j + 1) by omega]
    have hget : (zV ks)[i]? = some [.str (mkT (k + i))] := by
      have := hg ks.length i k (by omega)
      rw [hm]
      simp only [zV, List.getElem?_map, vD, this, Option.map_some]
    have hmt := qf (k + i) (by omega)
    have IH := Z6 ks hl k hk n (i + 1) (by omega) hm
    have w : IntKind.i64.wrap (((k + i : Nat) : Int) + 1) = ((k + (i + 1) : Nat) : Int) := by rw [zx (by omega)]; omega
    have w2 : IntKind.i64.wrap ((i : Int) + 1) = ((i + 1 : Nat) : Int) := by rw [zx (by omega)]; omega
    clear hm
    generalize mkT (k + i) = mt at *
    refine zu Tryz.func18 rfl rfl ?_
    simp (disch := ((try simp only [LL]); omega)) only [↓GO, ↓DRW, GA, ren, zA, zd, refs, zb, cst, zl, zG, z7, E.load, E.store, zF, isC, bin, zH, zI, una, z8, za, zh, zJ, blt, fnV, asArg, ze, zn, zo, zj, zi, zg, zk, zr, z6, zD, zE, E.mkS, zc, unN, zK, zm, zz, zB, zf, zL, zq, GS, simprocAttr, GZ, c, zO, hget, hmt, w, w2, IH, bne_self_eq_false]
theorem Sr (n k : Nat) (hn : n ≤ 134217728) (hk : k ≤ 1073741824) : zC (EV Tryz.prog pol) 18 [.t (.list 1 (zV (mkS n k))), .t (.int .i64 (k : Int))] = some (.t (.int .i64 ((k + n : Nat) : Int))) := by
  have L := Z6 (mkS n k) (by rw [vD]; exact hn) k hk n 0 (by rw [vD]; omega) (by rw [vD])
  rw [vD] at L
  simp only [Int.natCast_zero, Nat.add_zero] at L
  apply zw
  refine zy rfl Tryz.func18 rfl (by kernel_rfl) ?_
  unfold Tryz.f18
  simp (disch := ((try simp only [LL]); omega)) only [↓GO, ↓DRW, GA, ren, zA, zd, refs, zb, cst, zl, zG, z7, E.load, E.store, zF, isC, bin, zH, zI, una, z8, za, zh, zJ, blt, fnV, asArg, ze, zn, zo, zj, zi, zg, zk, zr, z6, zD, zE, E.mkS, zc, unN, zK, zm, zz, zB, zf, zL, zq, GS, simprocAttr, GZ, L]
end Go.Proofs.YtmcephnfcciloaaGreatDoor
/- Trees copied, by both. Conditions: those of each lemma. -/
namespace Go.Proofs.YtmcephnfcciloaaGreatDoor
open E
set_option linter.unusedSimpArgs false
set_option linter.unusedVariables false
set_option maxRecDepth 100000
end Go.Proofs.YtmcephnfcciloaaGreatDoor
/- Trees copied by the implementation: their memory is their own; what stands under a key, by both. Conditions: those of each lemma. -/
namespace Go.Proofs.YtmcephnfcciloaaGreatDoor
open E
set_option linter.unusedSimpArgs false
set_option linter.unusedVariables false
set_option maxRecDepth 100000
/-- the first place of a key, from i on -/
def ixS (key : Str) : Nat → List Str → Int
  | _, [] => -1
  | i, k :: r => cond (k == key) (i : Int) (ixS key (i + 1) r)
theorem Za (key : Str) : ∀ (r : List Str) (i : Nat), ixS key i r = -1 ∨ ((i : Int) ≤ ixS key i r ∧ ixS key i r < ((i + r.length : Nat) : Int))
  | [], i => .inl rfl
  | k :: r, i => by
    rw [ixS]
    cases hk : (k == key) with
    | true => right; simp only [cond_true, List.length_cons]; omega
    | false =>
      simp only [cond_false, List.length_cons]
      rcases Za key r (i + 1) with h | h
      · exact .inl h
      · right; omega
theorem l_ix (key : Str) (ks : List Str) (hl : ks.length ≤ 1048576) : ∀ (rest pre : List Str), ks = pre ++ rest → ∃ x,
    EV Tryz.prog pol (.loop 76 26 0 [.t (.list 1 (zV ks)), .t (.str key), .t (.int .i64 (ks.length : Int)), .t (.int .i64 (pre.length : Int))] []) = some (cond (decide (ixS key pre.length rest ≥ 0)) (.loop .ret [.t (.int .i64 (ixS key pre.length rest))] []) (.loop (.exit 0) [x] []))
  | [], pre, hs => by
    have c : decide ((pre.length : Int) < (ks.length : Int)) = false := by simp [hs]
    refine ⟨.bad, ?_⟩
    show _ = some (xS.loop (.exit 0) [.bad] [])
    refine zu Tryz.func76 rfl rfl ?_
    simp (disch := ((try simp only [LL]); omega)) only [↓GO, ↓DRW, GA, ren, zA, zd, refs, zb, cst, zl, zG, z7, E.load, E.store, zF, isC, bin, zH, zI, una, z8, za, zh, zJ, blt, fnV, asArg, ze, zn, zo, zj, zi, zg, zk, zr, z6, zD, zE, E.mkS, zc, unN, zK, zm, zz, zB, zf, zL, zq, GS, simprocAttr, GZ, c]
  | x :: rest, pre, hs => by
    have c : decide ((pre.length : Int) < (ks.length : Int)) = true := by simp [hs]; omega
    have hget : (zV ks)[pre.length]? = some [.str x] := by rw [hs]; simp [zV]
    have hlen : pre.length + rest.length + 1 ≤ ks.length := by rw [hs]; simp; omega
    obtain ⟨y, IH⟩ := l_ix key ks hl rest (pre ++ [x]) (by rw [hs]; simp)
    refine ⟨y, ?_⟩
    rw [show ((pre ++ [x]).length : Int) = (pre.length : Int) + 1 by simp, show (pre ++ [x]).length = pre.length + 1 by simp] at IH
    have hsym : (key == x) = (x == key) := by rw [Bool.eq_iff_iff]; simp only [beq_iff_eq]; exact eq_comm
    clear hs
    rw [ixS]
    cases hk : (x == key) <;> rw [hk] at hsym
    · simp only [cond_false]
      refine zu Tryz.func76 rfl rfl ?_
      simp (disch := ((try simp only [LL]); omega)) only [↓GO, ↓DRW, GA, ren, zA, zd, refs, zb, cst, zl, zG, z7, E.load, E.store, zF, isC, bin, zH, zI, una, z8, za, zh, zJ, blt, fnV, asArg, ze, zn, zo, zj, zi, zg, zk, zr, z6, zD, zE, E.mkS, zc, unN, zK, zm, zz, zB, zf, zL, zq, GS, simprocAttr, GZ, c, hget, zx, hsym, IH]
    · simp only [cond_true, show decide (((pre.length : Nat) : Int) ≥ 0) = true by simp]
      refine zu Tryz.func76 rfl rfl ?_
      simp (disch := ((try simp only [LL]); omega)) only [↓GO, ↓DRW, GA, ren, zA, zd, refs, zb, cst, zl, zG, z7, E.load, E.store, zF, isC, bin, zH, zI, una, z8, za, zh, zJ, blt, fnV, asArg, ze, zn, zo, zj, zi, zg, zk, zr, z6, zD, zE, E.mkS, zc, unN, zK, zm, zz, zB, zf, zL, zq, GS, simprocAttr, GZ, c, hget, zx, hsym]
theorem c_ix (key : Str) (ks : List Str) (hl : ks.length ≤ 1048576) : zC (EV Tryz.prog pol) 76 [.t (.list 1 (zV ks)), .t (.str key)] = some (.t (.int .i64 (ixS key 0 ks))) := by
  obtain ⟨x, L⟩ := l_ix key ks hl ks [] rfl
  have hr := Za key ks 0
  simp only [List.length_nil, Int.natCast_zero] at L
  cases hd : decide (ixS key 0 ks ≥ 0) with
  | true =>
    rw [hd] at L
    simp only [cond_true] at L
    apply zw
    refine zy rfl Tryz.func76 rfl (by kernel_rfl) ?_
    unfold Tryz.f76
    simp (disch := ((try simp only [LL]); omega)) only [↓GO, ↓DRW, GA, ren, zA, zd, refs, zb, cst, zl, zG, z7, E.load, E.store, zF, isC, bin, zH, zI, una, z8, za, zh, zJ, blt, fnV, asArg, ze, zn, zo, zj, zi, zg, zk, zr, z6, zD, zE, E.mkS, zc, unN, zK, zm, zz, zB, zf, zL, zq, GS, simprocAttr, GZ, L, zO]
  | false =>
    rw [hd] at L
    have h := of_decide_eq_false hd
    rw [show ixS key 0 ks = -1 by omega]
    simp only [cond_false] at L
    apply zw
    refine zy rfl Tryz.func76 rfl (by kernel_rfl) ?_
    unfold Tryz.f76
    simp (disch := ((try simp only [LL]); omega)) only [↓GO, ↓DRW, GA, ren, zA, zd, refs, zb, cst, zl, zG, z7, E.load, E.store, zF, isC, bin, zH, zI, una, z8, za, zh, zJ, blt, fnV, asArg, ze, zn, zo, zj, zi, zg, zk, zr, z6, zD, zE, E.mkS, zc, unN, zK, zm, zz, zB, zf, zL, zq, GS, simprocAttr, GZ, L, zO]
end Go.Proofs.YtmcephnfcciloaaGreatDoor
/- What stands under a key, by both. Conditions: those of each lemma. -/
namespace Go.Proofs.YtmcephnfcciloaaGreatDoor
open E
set_option linter.unusedSimpArgs false
set_option linter.unusedVariables false
set_option maxRecDepth 100000
end Go.Proofs.YtmcephnfcciloaaGreatDoor
/- Graphs laid anew, with memory of their own. Conditions: those of each lemma. -/
namespace Go.Proofs.YtmcephnfcciloaaGreatDoor
open E
set_option linter.unusedSimpArgs false
set_option linter.unusedVariables false
set_option maxRecDepth 100000
theorem tw : ∀ l : List y6, pq (y6.zW l) = true
  | [] => rfl
  | x :: l => by
    have := tw l
    unfold pq y6.zW at this ⊢
    rw [List.map_cons, List.all_cons, this]; rfl
theorem cq (a : List zN) (x : zN) : zN.zW (a ++ [x]) = zN.zW a ++ [x.enc] := by simp [zN.zW]
theorem Yj (a b : List zN) : zN.zW (a ++ b) = zN.zW a ++ zN.zW b := by simp [zN.zW]
def zPk : List V := [.t (.str []), .t (.str []), .t (.str []), .nil 2, .t (.bool false), .nil 1]
theorem Ww (cs : List y6) (hl : cs.length ≤ 1048576) (hc : ∀ c ∈ cs, dT c) : EV Tryz.prog pol (.callO false 90 [.t (.list 2 (y6.zW cs))] []) = some (.call (.sl 0 0 cs.length (some cs.length)) [.ts 2 (y6.zW cs)]) := by
  refine yM Tryz.func90 rfl (by kernel_rfl) ?_
  unfold Tryz.f90
  have h1 : ¬ ((cs.length : Int) < 0) := by omega
  have h2 : ¬ (cs.length * 32 > 140737488355328) := by omega
  have h3 : ¬ (cs.length > 140737488355328) := by omega
  have hz : List.replicate cs.length [T.str [], .str []] = wB (y6.zW cs) XN 0 := by rw [tA, y6.zT]; rfl
  have IH := ep cs hl hc cs.length 0 (by omega) (by omega)
  simp only [Int.natCast_zero] at IH
  simp (disch := omega) only [E.mkS, ↓GO, ↓DRW, GA, ren, zA, zd, refs, zb, cst, zl, zG, z7, E.load, E.store, zF, isC, bin, zH, zI, una, z8, za, zh, zJ, blt, fnV, asArg, ze, zn, zo, zj, zi, zg, zk, zr, z6, zD, zE, E.mkS, zc, unN, zK, zm, zz, zB, zf, zL, zq, GS, simprocAttr, y6.zT, Int.toNat_natCast, h1, h2, h3, hz, IH, ne_eq, not_true_eq_false]
def Ti (x : zN) : Prop := EV Tryz.prog pol (.callO false 61 [.agg (x.enc.map .t)] []) = some (.call (.agg [.t (.str x.name), .t (.str x.version), .t (.str x.source), .sl 0 0 x.sums.length (some x.sums.length), .t (.bool x.dev), .sl 1 0 x.ym.length (some x.ym.length)]) [.ts 2 (y6.zW x.sums), .ts 1 (zV x.ym)])
theorem US (x : zN) (ho : x.yg ≤ 1048576) : Ti x := by
  obtain ⟨name, version, source, sums, dev, ym⟩ := x
  simp only [zN.yg] at ho
  have d1 := Ww sums (by omega) (fun c hc => Sf c (by have := y6.yq hc; omega))
  have d2 := ly ym (by omega)
  simp only [Ti, zN.enc, List.map_cons, List.map_nil]
  refine yM Tryz.func61 rfl (by kernel_rfl) ?_
  unfold Tryz.f61
  simp (disch := ((try simp only [LL]); omega)) only [↓GO, ↓DRW, GA, ren, zA, zd, refs, zb, cst, zl, zG, z7, E.load, E.store, zF, isC, bin, zH, zI, una, z8, za, zh, zJ, blt, fnV, asArg, ze, zn, zo, zj, zi, zg, zk, zr, z6, zD, zE, E.mkS, zc, unN, zK, zm, zz, zB, zf, zL, zq, GS, simprocAttr, yZ, x5, pZ, qk, pf, pe, wC, mkO, sH, tU, vL, pX, xk, qi, qh, xD, oc, oTs, oT, xo, xo.rowTs, sB, isL, Bool.not_false, Bool.true_and, Bool.and_true, Bool.and_self, List.flatMap_append, List.map_append, List.set_cons_zero, List.set_cons_succ, GZ, d1, d2, zZ]
theorem UB (cs : List zN) (hl : cs.length ≤ 1048576) (hc : ∀ c ∈ cs, Ti c) : ∀ (rest pre : List zN), cs = pre ++ rest →
    EV Tryz.prog pol (.loop 31 58 0 [.t (.list 6 (zN.zW cs)), .sl 0 0 cs.length (some cs.length), .t (.int .i64 (pre.length : Int))] [.vs 6 (ocE (zN.zW pre) ++ List.replicate rest.length zPk)])
      = some (.loop (.exit 0) [.sl 0 0 cs.length (some cs.length)] [.vs 6 (ocE (zN.zW cs))])
  | [], pre, hs => by
    have c : decide ((pre.length : Int) < (cs.length : Int)) = false := by simp [hs]
    have e : cs = pre := by simpa using hs
    have hA := xh (zN.zW pre)
    have hR := fun m => xW m (zN.zW pre)
    simp only [List.length_nil, List.replicate_zero, List.append_nil]
    refine zu Tryz.func31 rfl rfl ?_
    simp (disch := ((try simp only [LL]); omega)) only [↓GO, ↓DRW, GA, ren, zA, zd, refs, zb, cst, zl, zG, z7, E.load, E.store, zF, isC, bin, zH, zI, una, z8, za, zh, zJ, blt, fnV, asArg, ze, zn, zo, zj, zi, zg, zk, zr, z6, zD, zE, E.mkS, zc, unN, zK, zm, zz, zB, zf, zL, zq, GS, simprocAttr, yZ, x5, pZ, qk, pf, pe, wC, mkO, sH, tU, vL, pX, xk, qi, qh, xD, oc, oTs, oT, xo, xo.rowTs, sB, isL, Bool.not_false, Bool.true_and, Bool.and_true, Bool.and_self, List.flatMap_append, List.map_append, List.set_cons_zero, List.set_cons_succ, GZ, zN.zT, c, hA, hR]
    rw [e]
  | x :: rest, pre, hs => by
    have c : decide ((pre.length : Int) < (cs.length : Int)) = true := by simp [hs]; omega
    have hget : (zN.zW cs)[pre.length]? = some x.enc := by rw [hs]; simp [zN.zW]
    have hlen : pre.length + rest.length + 1 ≤ cs.length := by rw [hs]; simp; omega
    have hcx := hc x (by rw [hs]; simp)
    have c0 : decide ((0 : Int) ≤ (pre.length : Int)) = true := by simp
    have c00 : (0 : Int) ≤ (pre.length : Int) := by omega
    have IH := UB cs hl hc rest (pre ++ [x]) (by rw [hs]; simp)
    rw [show ((pre ++ [x]).length : Int) = (pre.length : Int) + 1 by simp, cq, aK, sk, aJ, List.append_assoc, List.cons_append, List.nil_append] at IH
    have hAl : (ocE (zN.zW pre)).length = pre.length := by rw [qR, zN.zT]
    have hA := xh (zN.zW pre)
    have hR := fun m => xW m (zN.zW pre)
    have hB := mY zPk rfl rest.length
    have hRB := fun m => az m zPk rfl rest.length
    rw [List.length_cons, List.replicate_succ]
    have hg1 := fun y => qT (ocE (zN.zW pre)) (List.replicate rest.length zPk) y pre.length hAl
    have hs1 := fun y z => qS (ocE (zN.zW pre)) (List.replicate rest.length zPk) y z pre.length hAl
    clear hs
    obtain ⟨name, version, source, sums, dev, ym⟩ := x
    have hf1 := tw sums
    have hf2 := vT ym
    simp only [Ti, zN.enc, List.map_cons, List.map_nil, oc] at hcx hget IH
    generalize ocE (zN.zW pre) = A at *
    generalize List.replicate rest.length zPk = B at *
    unfold zPk
    refine zu Tryz.func31 rfl rfl ?_
    simp (disch := ((try simp only [LL]); omega)) only [↓GO, ↓DRW, GA, ren, zA, zd, refs, zb, cst, zl, zG, z7, E.load, E.store, zF, isC, bin, zH, zI, una, z8, za, zh, zJ, blt, fnV, asArg, ze, zn, zo, zj, zi, zg, zk, zr, z6, zD, zE, E.mkS, zc, unN, zK, zm, zz, zB, zf, zL, zq, GS, simprocAttr, yZ, x5, pZ, qk, pf, pe, wC, mkO, sH, tU, vL, pX, xk, qi, qh, xD, oc, oTs, oT, xo, xo.rowTs, sB, isL, Bool.not_false, Bool.true_and, Bool.and_true, Bool.and_self, List.flatMap_append, List.map_append, List.set_cons_zero, List.set_cons_succ, GZ, zN.zT, y6.zT, c, c0, c00, if_true, Int.toNat_natCast, hget, hcx, hg1, hs1, hA, hR, hB, hRB, zx, hf1, hf2, IH, zO, qR, xW, xh, zZ]
theorem mJ (cs : List zN) (hl : cs.length ≤ 1048576) (hc : ∀ c ∈ cs, Ti c) : EV Tryz.prog pol (.callO false 31 [.t (.list 6 (zN.zW cs))] []) = some (.call (.sl 0 0 cs.length (some cs.length)) [.vs 6 (ocE (zN.zW cs))]) := by
  refine yM Tryz.func31 rfl (by kernel_rfl) ?_
  unfold Tryz.f31
  have h1 : ¬ ((cs.length : Int) < 0) := by omega
  have h2 : ¬ (cs.length * 104 > 140737488355328) := by omega
  have h3 : ¬ (cs.length > 140737488355328) := by omega
  have L := UB cs hl hc cs [] rfl
  simp only [List.length_nil, Int.natCast_zero, show zN.zW [] = [] from rfl, aJ, List.nil_append] at L
  have hB := mY zPk rfl cs.length
  have hRB := fun m => az m zPk rfl cs.length
  unfold zPk at L hB hRB
  simp (disch := ((try simp only [LL]); omega)) only [↓GO, ↓DRW, GA, ren, zA, zd, refs, zb, cst, zl, zG, z7, E.load, E.store, zF, isC, bin, zH, zI, una, z8, za, zh, zJ, blt, fnV, asArg, ze, zn, zo, zj, zi, zg, zk, zr, z6, zD, zE, E.mkS, zc, unN, zK, zm, zz, zB, zf, zL, zq, GS, simprocAttr, yZ, x5, pZ, qk, pf, pe, wC, mkO, sH, tU, vL, pX, xk, qi, qh, xD, oc, oTs, oT, xo, xo.rowTs, sB, isL, Bool.not_false, Bool.true_and, Bool.and_true, Bool.and_self, List.flatMap_append, List.map_append, List.set_cons_zero, List.set_cons_succ, GZ, zN.zT, Int.toNat_natCast, h1, h2, h3, L, hB, hRB, xW, xh, ne_eq, not_true_eq_false, not_false_eq_true, zZ]
def Jh (x : zU) : Prop := EV Tryz.prog pol (.callO false 9 [.agg (x.enc.map .t)] []) = some (.call (.agg [.sl 0 0 x.top.length (some x.top.length), .sl 1 0 x.packs.length (some x.packs.length)]) [.ts 1 (zV x.top), .vs 6 (ocE (zN.zW x.packs))])
theorem RH (x : zU) (ho : x.yg ≤ 1048576) : Jh x := by
  obtain ⟨top, packs⟩ := x
  simp only [zU.yg] at ho
  have d1 := ly top (by omega)
  have d2 := mJ packs (by omega) (fun c hc => US c (by have := zN.yq hc; omega))
  simp only [Jh, zU.enc, List.map_cons, List.map_nil]
  refine yM Tryz.func9 rfl (by kernel_rfl) ?_
  unfold Tryz.f9
  simp (disch := ((try simp only [LL]); omega)) only [↓GO, ↓DRW, GA, ren, zA, zd, refs, zb, cst, zl, zG, z7, E.load, E.store, zF, isC, bin, zH, zI, una, z8, za, zh, zJ, blt, fnV, asArg, ze, zn, zo, zj, zi, zg, zk, zr, z6, zD, zE, E.mkS, zc, unN, zK, zm, zz, zB, zf, zL, zq, GS, simprocAttr, yZ, x5, pZ, qk, pf, pe, wC, mkO, sH, tU, vL, pX, xk, qi, qh, xD, oc, oTs, oT, xo, xo.rowTs, sB, isL, Bool.not_false, Bool.true_and, Bool.and_true, Bool.and_self, List.flatMap_append, List.map_append, List.set_cons_zero, List.set_cons_succ, GZ, d1, d2, xW, xh, zZ]
/-- and as a value that nobody writes -/
def Ji (x : zU) : Prop := zC (EV Tryz.prog pol) 9 [.agg (x.enc.map .t)] = some (.agg (x.enc.map .t))
theorem RI (x : zU) (ho : x.yg ≤ 1048576) : Ji x := by
  obtain ⟨top, packs⟩ := x
  simp only [zU.yg] at ho
  have d1 := ly top (by omega)
  have d2 := mJ packs (by omega) (fun c hc => US c (by have := zN.yq hc; omega))
  have g := UP (zN.zW packs)
  have ht : (zN.zW packs).take packs.length = zN.zW packs := by rw [← zN.zT packs]; simp
  have ht2 : (zV top).take top.length = zV top := by rw [← zO top]; simp
  simp only [Ji, zU.enc, List.map_cons, List.map_nil]
  apply zw
  refine zy rfl Tryz.func9 rfl (by kernel_rfl) ?_
  unfold Tryz.f9
  simp (disch := ((try simp only [LL]); omega)) only [↓GO, ↓DRW, GA, ren, zA, zd, refs, zb, cst, zl, zG, z7, E.load, E.store, zF, isC, bin, zH, zI, una, z8, za, zh, zJ, blt, fnV, asArg, ze, zn, zo, zj, zi, zg, zk, zr, z6, zD, zE, E.mkS, zc, unN, zK, zm, zz, zB, zf, zL, zq, GS, simprocAttr, yZ, x5, pZ, qk, pf, pe, wC, mkO, sH, tU, vL, pX, xk, qi, qh, xD, oc, oTs, oT, xo, xo.rowTs, sB, isL, Bool.not_false, Bool.true_and, Bool.and_true, Bool.and_self, List.flatMap_append, List.map_append, List.set_cons_zero, List.set_cons_succ, GZ, d1, d2, g, ht, ht2, xW, xh, zZ]
end Go.Proofs.YtmcephnfcciloaaGreatDoor
/- Marks in graphs. Conditions: those of each lemma. -/
namespace Go.Proofs.YtmcephnfcciloaaGreatDoor
open E
set_option linter.unusedSimpArgs false
set_option linter.unusedVariables false
set_option maxRecDepth 100000
def tO : Nat → Nat → List y6
  | 0, _ => []
  | n + 1, k => ⟨mkT k, mkT (k + 1)⟩ :: tO n (k + 2)
theorem lf : ∀ n k, (tO n k).length = n
  | 0, _ => rfl
  | n + 1, k => by rw [tO, List.length_cons, lf n (k + 2)]
theorem kO : ∀ n k, tO (n + 1) k = tO n k ++ [⟨mkT (k + 2 * n), mkT (k + 2 * n + 1)⟩]
  | 0, k => rfl
  | n + 1, k => by
    rw [tO, kO n (k + 2), tO, List.cons_append, show k + 2 + 2 * n = k + 2 * (n + 1) by omega]
theorem ev (cs : List y6) (hl : cs.length ≤ 4194304) (cap : Option Nat) (k : Nat) (hk : k ≤ 1073741824) : ∀ (rest pre : List y6), cs = pre ++ rest →
    EV Tryz.prog pol (.loop 68 26 1 [.sl 0 0 cs.length cap, .t (.int .i64 ((k + 2 * pre.length : Nat) : Int)), .t (.int .i64 (pre.length : Int))] [.ts 2 (y6.zW (tO pre.length k) ++ y6.zW rest)])
      = some (.loop (.exit 0) [.t (.int .i64 ((k + 2 * cs.length : Nat) : Int))] [.ts 2 (y6.zW (tO cs.length k))])
  | [], pre, hs => by
    have c : decide ((pre.length : Int) < (cs.length : Int)) = false := by simp [hs]
    have e : cs = pre := by simpa using hs
    simp only [show y6.zW [] = [] from rfl, List.append_nil]
    refine zu Tryz.func68 rfl rfl ?_
    simp (disch := ((try simp only [LL]); omega)) only [↓GO, ↓DRW, GA, ren, zA, zd, refs, zb, cst, zl, zG, z7, E.load, E.store, zF, isC, bin, zH, zI, una, z8, za, zh, zJ, blt, fnV, asArg, ze, zn, zo, zj, zi, zg, zk, zr, z6, zD, zE, E.mkS, zc, unN, zK, zm, zz, zB, zf, zL, zq, GS, simprocAttr, GZ, c]
    rw [e]
  | x :: rest, pre, hs => by
    have c : decide ((pre.length : Int) < (cs.length : Int)) = true := by simp [hs]; omega
    have c0 : decide ((0 : Int) ≤ (pre.length : Int)) = true := by simp
    have c00 : (0 : Int) ≤ (pre.length : Int) := by omega
    have hlen : pre.length + rest.length + 1 ≤ cs.length := by rw [hs]; simp; omega
    have hm := qf (k + 2 * pre.length) (by omega)
    have hm2 := qf (k + 2 * pre.length + 1) (by omega)
    have IH := ev cs hl cap k hk rest (pre ++ [x]) (by rw [hs]; simp)
    rw [show (pre ++ [x]).length = pre.length + 1 by simp, kO, show y6.zW (tO pre.length k ++ [⟨mkT (k + 2 * pre.length), mkT (k + 2 * pre.length + 1)⟩]) = y6.zW (tO pre.length k) ++ [[.str (mkT (k + 2 * pre.length)), .str (mkT (k + 2 * pre.length + 1))]] by simp [y6.zW, y6.enc], List.append_assoc, List.cons_append, List.nil_append] at IH
    rw [show k + 2 * (pre.length + 1) = k + 2 * pre.length + 2 by omega] at IH
    have hAl : (y6.zW (tO pre.length k)).length = pre.length := by rw [y6.zT, lf]
    rw [show y6.zW (x :: rest) = [.str x.alg, .str x.bytes] :: y6.zW rest from rfl]
    have hg1 := fun y => qT (y6.zW (tO pre.length k)) (y6.zW rest) y pre.length hAl
    have hs1 := fun y z => qS (y6.zW (tO pre.length k)) (y6.zW rest) y z pre.length hAl
    clear hs
    generalize y6.zW (tO pre.length k) = A at *
    generalize mkT (k + 2 * pre.length + 1) = mt2 at *
    generalize mkT (k + 2 * pre.length) = mt at *
    have hkp : k + 2 * pre.length ≤ 1082130432 := by omega
    generalize k + 2 * pre.length = kp at *
    have w : IntKind.i64.wrap ((kp : Int) + 1) = ((kp + 1 : Nat) : Int) := by rw [zx (by omega)]; omega
    have w1 : IntKind.i64.wrap (((kp + 1 : Nat) : Int) + 1) = ((kp + 2 : Nat) : Int) := by rw [zx (by omega)]; omega
    have w2 : IntKind.i64.wrap ((pre.length : Int) + 1) = ((pre.length + 1 : Nat) : Int) := by rw [zx (by omega)]; omega
    refine zu Tryz.func68 rfl rfl ?_
    simp (disch := ((try simp only [LL]); omega)) only [↓GO, ↓DRW, GA, ren, zA, zd, refs, zb, cst, zl, zG, z7, E.load, E.store, zF, isC, bin, zH, zI, una, z8, za, zh, zJ, blt, fnV, asArg, ze, zn, zo, zj, zi, zg, zk, zr, z6, zD, zE, E.mkS, zc, unN, zK, zm, zz, zB, zf, zL, zq, GS, simprocAttr, GZ, c, c0, c00, if_true, Int.toNat_natCast, hm, hm2, hg1, hs1, w, w1, w2, IH]
theorem WE (cs : List y6) (hl : cs.length ≤ 4194304) (cap : Option Nat) (k : Nat) (hk : k ≤ 1073741824) (n : Nat) (hn : n = cs.length) :
    EV Tryz.prog pol (.callO false 68 [.sl 0 0 n cap, .t (.int .i64 (k : Int))] [.ts 2 (y6.zW cs)]) = some (.call (.t (.int .i64 ((k + 2 * cs.length : Nat) : Int))) [.ts 2 (y6.zW (tO cs.length k))]) := by
  subst hn
  have L := ev cs hl cap k hk cs [] rfl
  simp only [List.length_nil, Int.natCast_zero, tO, show y6.zW [] = [] from rfl, List.nil_append, Nat.mul_zero, Nat.add_zero] at L
  refine yM Tryz.func68 rfl (by kernel_rfl) ?_
  unfold Tryz.f68
  simp (disch := ((try simp only [LL]); omega)) only [↓GO, ↓DRW, GA, ren, zA, zd, refs, zb, cst, zl, zG, z7, E.load, E.store, zF, isC, bin, zH, zI, una, z8, za, zh, zJ, blt, fnV, asArg, ze, zn, zo, zj, zi, zg, zk, zr, z6, zD, zE, E.mkS, zc, unN, zK, zm, zz, zB, zf, zL, zq, GS, simprocAttr, GZ, L]
end Go.Proofs.YtmcephnfcciloaaGreatDoor
/- Marks in packs and graphs. Conditions: those of each lemma. -/
namespace Go.Proofs.YtmcephnfcciloaaGreatDoor
open E
set_option linter.unusedSimpArgs false
set_option linter.unusedVariables false
set_option maxRecDepth 100000
def dvB (k : Nat) : Bool := (((k % 3 : Nat) : Int) == 0)
def kf (x : zN) : Nat := 4 + 2 * x.sums.length + x.ym.length
def yO : List zN → Nat
  | [] => 0
  | x :: r => kf x + yO r
def Te (k : Nat) (x : zN) : zN := ⟨mkT k, mkT (k + 1), mkT (k + 2), tO x.sums.length (k + 3), dvB (k + 3 + 2 * x.sums.length), mkS x.ym.length (k + 3 + 2 * x.sums.length + 1)⟩
def xU : Nat → List zN → List zN
  | _, [] => []
  | k, x :: r => Te k x :: xU (k + kf x) r
theorem kP : ∀ (k : Nat) (cs : List zN), (xU k cs).length = cs.length
  | k, [] => rfl
  | k, c :: cs => by simp [xU, kP _ cs]
theorem pT : ∀ a b : List zN, yO (a ++ b) = yO a + yO b
  | [], b => by simp [yO]
  | c :: a, b => by simp only [List.cons_append, yO, pT a b]; omega
theorem kQ : ∀ (k : Nat) (a b : List zN), xU k (a ++ b) = xU k a ++ xU (k + yO a) b
  | k, [], b => by simp [xU, yO]
  | k, c :: a, b => by
    simp only [List.cons_append, xU, yO, kQ _ a b]
    rw [show k + kf c + yO a = k + (kf c + yO a) by omega]
theorem S9 (x : zN) : kf x ≤ 4 + 2 * x.yg := by simp only [kf, zN.yg]; omega
theorem dy : ∀ cs : List zN, yO cs ≤ 4 * cs.length + 2 * zN.ya cs
  | [] => by simp [yO]
  | c :: cs => by
    have h1 := S9 c
    have h2 := dy cs
    simp only [yO, zN.ya, List.length_cons]; omega
theorem Z2 (cs : List zN) (hl : cs.length ≤ 4194304) (hb : ∀ c ∈ cs, c.yg ≤ 4194304) (cap : Option Nat) (k : Nat) (hk : k + yO cs ≤ 1073741824) : ∀ (rest pre : List zN), cs = pre ++ rest →
    EV Tryz.prog pol (.loop 38 26 1 [.sl 0 0 cs.length cap, .t (.int .i64 ((k + yO pre : Nat) : Int)), .t (.int .i64 (pre.length : Int))] [.vs 6 (ocE (zN.zW (xU k pre)) ++ ocE (zN.zW rest))])
      = some (.loop (.exit 0) [.t (.int .i64 ((k + yO cs : Nat) : Int))] [.vs 6 (ocE (zN.zW (xU k cs)))])
  | [], pre, hs => by
    have c : decide ((pre.length : Int) < (cs.length : Int)) = false := by simp [hs]
    have e : cs = pre := by simpa using hs
    have hA := xh (zN.zW (xU k pre))
    have hR := fun m => xW m (zN.zW (xU k pre))
    simp only [show ocE (zN.zW []) = [] from rfl, List.append_nil]
    refine zu Tryz.func38 rfl rfl ?_
    simp (disch := ((try simp only [LL]); omega)) only [↓GO, ↓DRW, GA, ren, zA, zd, refs, zb, cst, zl, zG, z7, E.load, E.store, zF, isC, bin, zH, zI, una, z8, za, zh, zJ, blt, fnV, asArg, ze, zn, zo, zj, zi, zg, zk, zr, z6, zD, zE, E.mkS, zc, unN, zK, zm, zz, zB, zf, zL, zq, GS, simprocAttr, yZ, x5, pZ, qk, pf, pe, wC, mkO, sH, tU, vL, pX, xk, qi, qh, xD, oc, oTs, oT, xo, xo.rowTs, sB, isL, Bool.not_false, Bool.true_and, Bool.and_true, Bool.and_self, List.flatMap_append, List.map_append, List.set_cons_zero, List.set_cons_succ, GZ, c, hA, hR]
    rw [e]
  | x :: rest, pre, hs => by
    have c : decide ((pre.length : Int) < (cs.length : Int)) = true := by simp [hs]; omega
    have c0 : decide ((0 : Int) ≤ (pre.length : Int)) = true := by simp
    have c00 : (0 : Int) ≤ (pre.length : Int) := by omega
    have hlen : pre.length + rest.length + 1 ≤ cs.length := by rw [hs]; simp; omega
    have hcn : yO cs = yO pre + yO (x :: rest) := by rw [hs, pT]
    have hbx := hb x (by rw [hs]; simp)
    have IH := Z2 cs hl hb cap k hk rest (pre ++ [x]) (by rw [hs]; simp)
    have e1 : xU k (pre ++ [x]) = xU k pre ++ [Te (k + yO pre) x] := by rw [kQ]; simp [xU]
    have e2 : yO (pre ++ [x]) = yO pre + kf x := by rw [pT]; simp [yO]
    rw [e1, e2, Yj, aK, show (pre ++ [x]).length = pre.length + 1 by simp] at IH
    simp only [yO] at hcn
    have hAl : (ocE (zN.zW (xU k pre))).length = pre.length := by rw [qR, zN.zT, kP]
    have hA := xh (zN.zW (xU k pre))
    have hR := fun m => xW m (zN.zW (xU k pre))
    have hB := xh (zN.zW rest)
    have hRB := fun m => xW m (zN.zW rest)
    rw [show ocE (zN.zW (x :: rest)) = x.enc.map oc :: ocE (zN.zW rest) from rfl]
    rw [show ocE (zN.zW [Te (k + yO pre) x]) = [(Te (k + yO pre) x).enc.map oc] from rfl] at IH
    have hg1 := fun y => qT (ocE (zN.zW (xU k pre))) (ocE (zN.zW rest)) y pre.length hAl
    have hs1 := fun y z => qS (ocE (zN.zW (xU k pre))) (ocE (zN.zW rest)) y z pre.length hAl
    clear hs e1 e2
    have hkb : k + yO pre + kf x ≤ 1073741824 := by omega
    rw [show k + (yO pre + kf x) = k + yO pre + kf x by omega] at IH
    generalize k + yO pre = kp at *
    obtain ⟨name, version, source, sums, dev, ym⟩ := x
    simp only [zN.yg] at hbx
    simp only [kf] at hkb IH
    rw [show kp + (4 + 2 * sums.length + ym.length) = kp + 3 + 2 * sums.length + 1 + ym.length by omega] at IH
    have hmt0 := qf kp (by omega)
    have hmt1 := qf (kp + 1) (by omega)
    have hmt2 := qf (kp + 2) (by omega)
    have hmm := WE sums (by omega) none (kp + 3) (by omega) sums.length rfl
    have hms := iH ym (by omega) none (kp + 3 + 2 * sums.length + 1) (by omega) ym.length rfl
    have w0 : IntKind.i64.wrap ((kp : Int) + 1) = ((kp + 1 : Nat) : Int) := by rw [zx (by omega)]; omega
    have w1 : IntKind.i64.wrap (((kp + 1 : Nat) : Int) + 1) = ((kp + 2 : Nat) : Int) := by rw [zx (by omega)]; omega
    have w2 : IntKind.i64.wrap (((kp + 2 : Nat) : Int) + 1) = ((kp + 3 : Nat) : Int) := by rw [zx (by omega)]; omega
    have w3 : IntKind.i64.wrap ((pre.length : Int) + 1) = ((pre.length + 1 : Nat) : Int) := by rw [zx (by omega)]; omega
    have w4 : IntKind.i64.wrap (((kp + 3 + 2 * sums.length : Nat) : Int) + 1) = ((kp + 3 + 2 * sums.length + 1 : Nat) : Int) := by rw [zx (by omega)]; omega
    have e1 : (((kp + 3 + 2 * sums.length : Nat) : Int)).tmod 3 = (((kp + 3 + 2 * sums.length) % 3 : Nat) : Int) := (Int.ofNat_tmod _ 3).symm
    have hr3 : (kp + 3 + 2 * sums.length) % 3 < 3 := Nat.mod_lt _ (by omega)
    have hdv : ((((kp + 3 + 2 * sums.length) % 3 : Nat) : Int) == 0) = dvB (kp + 3 + 2 * sums.length) := rfl
    have hf1 := tw sums
    have hf2 := tw (tO sums.length (kp + 3))
    have hf3 := vT ym
    have hf4 := vT (mkS ym.length (kp + 3 + 2 * sums.length + 1))
    have hl1 := lf sums.length (kp + 3)
    have hl2 := vD ym.length (kp + 3 + 2 * sums.length + 1)
    simp only [Te, zN.enc, List.map_cons, List.map_nil, oc, List.append_assoc, List.cons_append, List.nil_append] at IH ⊢
    generalize tO sums.length (kp + 3) = mm at *
    generalize mkS ym.length (kp + 3 + 2 * sums.length + 1) = ms at *
    generalize mkT (kp + 2) = mt2 at *
    generalize mkT (kp + 1) = mt1 at *
    generalize mkT kp = mt0 at *
    generalize ocE (zN.zW (xU k pre)) = A at *
    generalize ocE (zN.zW rest) = B at *
    refine zu Tryz.func38 rfl rfl ?_
    simp (disch := ((try simp only [LL]); omega)) only [↓GO, ↓DRW, GA, ren, zA, zd, refs, zb, cst, zl, zG, z7, E.load, E.store, zF, isC, bin, zH, zI, una, z8, za, zh, zJ, blt, fnV, asArg, ze, zn, zo, zj, zi, zg, zk, zr, z6, zD, zE, E.mkS, zc, unN, zK, zm, zz, zB, zf, zL, zq, GS, simprocAttr, yZ, x5, pZ, qk, pf, pe, wC, mkO, sH, tU, vL, pX, xk, qi, qh, xD, oc, oTs, oT, xo, xo.rowTs, sB, isL, Bool.not_false, Bool.true_and, Bool.and_true, Bool.and_self, List.flatMap_append, List.map_append, List.set_cons_zero, List.set_cons_succ, GZ, c, c0, c00, if_true, Int.toNat_natCast, hmt0, hmt1, hmt2, hmm, hms, hg1, hs1, hA, hR, hB, hRB, w0, w1, w2, w3, w4, e1, hdv, hf1, hf2, hf3, hf4, hl1, hl2, zO, y6.zT, zN.zT, qR, xW, xh, IH, zZ]
theorem WG (cs : List zN) (hb : cs.length + zN.ya cs ≤ 4194304) (cap : Option Nat) (k : Nat) (hk : k + yO cs ≤ 1073741824) (n : Nat) (hn : n = cs.length) :
    EV Tryz.prog pol (.callO false 38 [.sl 0 0 n cap, .t (.int .i64 (k : Int))] [.vs 6 (ocE (zN.zW cs))]) = some (.call (.t (.int .i64 ((k + yO cs : Nat) : Int))) [.vs 6 (ocE (zN.zW (xU k cs)))]) := by
  subst hn
  have L := Z2 cs (by omega) (fun c hc => by have := zN.yq hc; omega) cap k hk cs [] rfl
  simp only [List.length_nil, Int.natCast_zero, xU, yO, show ocE (zN.zW []) = [] from rfl, List.nil_append, Nat.add_zero] at L
  refine yM Tryz.func38 rfl (by kernel_rfl) ?_
  unfold Tryz.f38
  simp (disch := ((try simp only [LL]); omega)) only [↓GO, ↓DRW, GA, ren, zA, zd, refs, zb, cst, zl, zG, z7, E.load, E.store, zF, isC, bin, zH, zI, una, z8, za, zh, zJ, blt, fnV, asArg, ze, zn, zo, zj, zi, zg, zk, zr, z6, zD, zE, E.mkS, zc, unN, zK, zm, zz, zB, zf, zL, zq, GS, simprocAttr, yZ, x5, pZ, qk, pf, pe, wC, mkO, sH, tU, vL, pX, xk, qi, qh, xD, oc, oTs, oT, xo, xo.rowTs, sB, isL, Bool.not_false, Bool.true_and, Bool.and_true, Bool.and_self, List.flatMap_append, List.map_append, List.set_cons_zero, List.set_cons_succ, GZ, L, xW, xh, zZ]
theorem Sp (top : List Str) (cs : List zN) (ht : top.length ≤ 4194304) (hb : cs.length + zN.ya cs ≤ 4194304) (n1 n2 : Nat) (h1 : n1 = top.length) (h2 : n2 = cs.length) (p1 p2 : Option Nat) (k : Nat) (hk : k + top.length + yO cs ≤ 1073741824) :
    EV Tryz.prog pol (.callO false 15 [.agg [.sl 0 0 n1 p1, .sl 1 0 n2 p2], .t (.int .i64 (k : Int))] [.ts 1 (zV top), .vs 6 (ocE (zN.zW cs))])
      = some (.call (.t (.int .i64 ((k + top.length + yO cs : Nat) : Int))) [.ts 1 (zV (mkS top.length k)), .vs 6 (ocE (zN.zW (xU (k + top.length) cs)))]) := by
  subst h1 h2
  have d1 := iH top (by omega) p1 k (by omega) top.length rfl
  have d2 := WG cs hb p2 (k + top.length) (by omega) cs.length rfl
  refine yM Tryz.func15 rfl (by kernel_rfl) ?_
  unfold Tryz.f15
  simp (disch := ((try simp only [LL]); omega)) only [↓GO, ↓DRW, GA, ren, zA, zd, refs, zb, cst, zl, zG, z7, E.load, E.store, zF, isC, bin, zH, zI, una, z8, za, zh, zJ, blt, fnV, asArg, ze, zn, zo, zj, zi, zg, zk, zr, z6, zD, zE, E.mkS, zc, unN, zK, zm, zz, zB, zf, zL, zq, GS, simprocAttr, yZ, x5, pZ, qk, pf, pe, wC, mkO, sH, tU, vL, pX, xk, qi, qh, xD, oc, oTs, oT, xo, xo.rowTs, sB, isL, Bool.not_false, Bool.true_and, Bool.and_true, Bool.and_self, List.flatMap_append, List.map_append, List.set_cons_zero, List.set_cons_succ, GZ, d1, d2, xW, xh, zZ]
end Go.Proofs.YtmcephnfcciloaaGreatDoor
/- Marks in packs and graphs found again. Conditions: those of each lemma. -/
namespace Go.Proofs.YtmcephnfcciloaaGreatDoor
open E
set_option linter.unusedSimpArgs false
set_option linter.unusedVariables false
set_option maxRecDepth 100000
end Go.Proofs.YtmcephnfcciloaaGreatDoor
/- What the laws' own functions do over lists of Notice: sizes, copies, comparisons, marks. Conditions: those of each lemma. -/
namespace Go.Proofs.YtmcephnfcciloaaGreatDoor
open E
set_option linter.unusedSimpArgs false
set_option linter.unusedVariables false
set_option maxRecDepth 100000
theorem oK (cs : List zt) (hl : cs.length ≤ 9223372036854775807) (hc : ∀ c ∈ cs, lF c) : ∀ (d i : Nat) (n : Int), cs.length - i = d → i ≤ cs.length → 0 ≤ n → n ≤ 1048576 →
    (0 ≤ n - (zt.ya (cs.drop i) : Int) → EV Tryz.prog pol (.loop 7 122 0 [.t (.list 3 (zt.zW cs)), .t (.int .i64 n), .t (.int .i64 (i : Int))] []) = some (.loop (.exit 0) [.t (.int .i64 (n - (zt.ya (cs.drop i) : Int))), .bad] [])) ∧
    (n - (zt.ya (cs.drop i) : Int) < 0 → ∃ v, EV Tryz.prog pol (.loop 7 122 0 [.t (.list 3 (zt.zW cs)), .t (.int .i64 n), .t (.int .i64 (i : Int))] []) = some (.loop .ret [v, .t (.int .i64 (-1))] []))
  | 0, i, n, hd, hi, h0, h1 => by
    have hi' : i = cs.length := by omega
    subst hi'
    have hb : zt.ya (cs.drop cs.length) = 0 := by simp [zt.ya]
    rw [hb]
    refine ⟨fun _ => ?_, fun h => by omega⟩
    refine zu Tryz.func7 rfl rfl ?_
    have c : decide (((cs.length : Nat) : Int) < ((cs.length : Nat) : Int)) = false := by simp
    simp only [↓GO, ↓DRW, GA, ren, zA, zd, refs, zb, cst, zl, zG, z7, E.load, E.store, zF, isC, bin, zH, zI, una, z8, za, zh, zJ, blt, fnV, asArg, ze, zn, zo, zj, zi, zg, zk, zr, z6, zD, zE, E.mkS, zc, unN, zK, zm, zz, zB, zf, zL, zq, GS, simprocAttr, zt.zT, c]
    simp
  | d + 1, i, n, hd, hi, h0, h1 => by
    have hlt : i < cs.length := by omega
    rw [zt.xm cs i hlt]
    have c : decide ((i : Int) < ((cs.length : Nat) : Int)) = true := by simp; omega
    have hcall := hc _ (List.getElem_mem hlt) n h0 h1
    have hget := zt.yT cs i hlt
    generalize hci : cs[i] = ci at hcall hget
    obtain ⟨name, range, text⟩ := ci
    simp only [zt.enc, List.map_cons, List.map_nil] at hcall hget
    generalize hbu : (zt.mk name range text).yg = bu at hcall
    have IH := oK cs hl hc d (i + 1) (n - (bu : Int)) (by omega) (by omega)
    have e1 : (i : Int) + 1 = ((i + 1 : Nat) : Int) := by omega
    by_cases hneg : n - (bu : Int) < 0
    · refine ⟨fun h => by omega, fun _ => ⟨.t (.int .i64 (-1)), ?_⟩⟩
      refine zu Tryz.func7 rfl rfl ?_
      have hle : left n bu = -1 := if_pos hneg
      rw [hle] at hcall
      simp (disch := omega) only [↓GO, ↓DRW, GA, ren, zA, zd, refs, zb, cst, zl, zG, z7, E.load, E.store, zF, isC, bin, zH, zI, una, z8, za, zh, zJ, blt, fnV, asArg, ze, zn, zo, zj, zi, zg, zk, zr, z6, zD, zE, E.mkS, zc, unN, zK, zm, zz, zB, zf, zL, zq, GS, simprocAttr, zt.zT, c, hget, zx, hcall]
    · have hle : left n bu = n - (bu : Int) := if_neg hneg
      rw [hle] at hcall
      have c2 : decide (n - (bu : Int) < 0) = false := by simpa using hneg
      obtain ⟨I1, I2⟩ := IH (by omega) (by omega)
      refine ⟨fun h => ?_, fun h => ?_⟩
      · refine zu Tryz.func7 rfl rfl ?_
        simp (disch := omega) only [↓GO, ↓DRW, GA, ren, zA, zd, refs, zb, cst, zl, zG, z7, E.load, E.store, zF, isC, bin, zH, zI, una, z8, za, zh, zJ, blt, fnV, asArg, ze, zn, zo, zj, zi, zg, zk, zr, z6, zD, zE, E.mkS, zc, unN, zK, zm, zz, zB, zf, zL, zq, GS, simprocAttr, zt.zT, c, hget, zx, hcall, c2, e1]
        rw [I1 (by omega), show n - (bu : Int) - (zt.ya (cs.drop (i + 1)) : Int) = n - ((bu + zt.ya (cs.drop (i + 1)) : Nat) : Int) by omega]
      · obtain ⟨v, hv⟩ := I2 (by omega)
        refine ⟨v, ?_⟩
        refine zu Tryz.func7 rfl rfl ?_
        simp (disch := omega) only [↓GO, ↓DRW, GA, ren, zA, zd, refs, zb, cst, zl, zG, z7, E.load, E.store, zF, isC, bin, zH, zI, una, z8, za, zh, zJ, blt, fnV, asArg, ze, zn, zo, zj, zi, zg, zk, zr, z6, zD, zE, E.mkS, zc, unN, zK, zm, zz, zB, zf, zL, zq, GS, simprocAttr, zt.zT, c, hget, zx, hcall, c2, e1]
        exact hv
theorem oY (cs : List zt) (hl : cs.length ≤ 9223372036854775807) (hc : ∀ c ∈ cs, lF c) (n : Int) (h0 : 0 ≤ n) (h1 : n ≤ 1048576) :
    zC (EV Tryz.prog pol) 7 [.t (.list 3 (zt.zW cs)), .t (.int .i64 n)] = some (.t (.int .i64 (left n (cs.length + zt.ya cs)))) := by
  apply zw
  refine zy rfl Tryz.func7 rfl (by kernel_rfl) ?_
  unfold Tryz.f7
  by_cases hneg : n - (cs.length : Int) < 0
  · have c2 : decide (n - (cs.length : Int) < 0) = true := by simpa using hneg
    simp (disch := omega) only [↓GO, ↓DRW, GA, ren, zA, zd, refs, zb, cst, zl, zG, z7, E.load, E.store, zF, isC, bin, zH, zI, una, z8, za, zh, zJ, blt, fnV, asArg, ze, zn, zo, zj, zi, zg, zk, zr, z6, zD, zE, E.mkS, zc, unN, zK, zm, zz, zB, zf, zL, zq, GS, simprocAttr, zt.zT, zx, c2]
    rw [left, if_pos (by omega)]
  · have c2 : decide (n - (cs.length : Int) < 0) = false := by simpa using hneg
    obtain ⟨I1, I2⟩ := oK cs hl hc cs.length 0 (n - (cs.length : Int)) (by omega) (by omega) (by omega) (by omega)
    simp only [List.drop_zero, Int.natCast_zero] at I1 I2
    by_cases hn2 : n - (cs.length : Int) - (zt.ya cs : Int) < 0
    · obtain ⟨v, hv⟩ := I2 hn2
      simp (disch := omega) only [↓GO, ↓DRW, GA, ren, zA, zd, refs, zb, cst, zl, zG, z7, E.load, E.store, zF, isC, bin, zH, zI, una, z8, za, zh, zJ, blt, fnV, asArg, ze, zn, zo, zj, zi, zg, zk, zr, z6, zD, zE, E.mkS, zc, unN, zK, zm, zz, zB, zf, zL, zq, GS, simprocAttr, zt.zT, zx, c2, hv]
      rw [left, if_pos (by omega)]
    · simp (disch := omega) only [↓GO, ↓DRW, GA, ren, zA, zd, refs, zb, cst, zl, zG, z7, E.load, E.store, zF, isC, bin, zH, zI, una, z8, za, zh, zJ, blt, fnV, asArg, ze, zn, zo, zj, zi, zg, zk, zr, z6, zD, zE, E.mkS, zc, unN, zK, zm, zz, zB, zf, zL, zq, GS, simprocAttr, zt.zT, zx, c2, I1 (by omega)]
      rw [left, if_neg (by omega), show n - (cs.length : Int) - (zt.ya cs : Int) = n - ((cs.length + zt.ya cs : Nat) : Int) by omega]
def tF : List T := [.str [], .str [], .str []]
theorem s8 (cs : List zt) (hl : cs.length ≤ 1048576) (hc : ∀ c ∈ cs, uU c) : ∀ (d i : Nat), cs.length - i = d → i ≤ cs.length →
    EV Tryz.prog pol (.loop 10 58 0 [.t (.list 3 (zt.zW cs)), .sl 0 0 cs.length (some cs.length), .t (.int .i64 (i : Int))] [.ts 3 (wB (zt.zW cs) tF i)]) = some (.loop (.exit 0) [.sl 0 0 cs.length (some cs.length)] [.ts 3 (zt.zW cs)])
  | 0, i, hd, hi => by
    have hi' : i = cs.length := by omega
    subst hi'
    refine zu Tryz.func10 rfl rfl ?_
    have c : decide (((cs.length : Nat) : Int) < ((cs.length : Nat) : Int)) = false := by simp
    have hf : wB (zt.zW cs) tF cs.length = zt.zW cs := by rw [← zt.zT cs]; exact pN _ _
    simp only [↓GO, ↓DRW, GA, ren, zA, zd, refs, zb, cst, zl, zG, z7, E.load, E.store, zF, isC, bin, zH, zI, una, z8, za, zh, zJ, blt, fnV, asArg, ze, zn, zo, zj, zi, zg, zk, zr, z6, zD, zE, E.mkS, zc, unN, zK, zm, zz, zB, zf, zL, zq, GS, simprocAttr, zt.zT, c, hf]
  | d + 1, i, hd, hi => by
    have hlt : i < cs.length := by omega
    have hlt' : i < (zt.zW cs).length := by rw [zt.zT]; exact hlt
    have c : decide ((i : Int) < ((cs.length : Nat) : Int)) = true := by simp; omega
    have c0 : decide ((0 : Int) ≤ (i : Int)) = true := by simp
    have IH := s8 cs hl hc d (i + 1) (by omega) (by omega)
    have e1 : (i : Int) + 1 = ((i + 1 : Nat) : Int) := by omega
    have hg : (wB (zt.zW cs) tF i)[i]? = some [.str [], .str [], .str []] := pM (zt.zW cs) tF i hlt'
    have hs := pL (zt.zW cs) tF i hlt'
    have hx : (zt.zW cs)[i] = cs[i].enc := by simp [zt.zW]
    rw [hx] at hs
    have hcall := hc _ (List.getElem_mem hlt)
    have hget := zt.yT cs i hlt
    generalize hci : cs[i] = ci at hcall hget hs
    obtain ⟨name, range, text⟩ := ci
    simp only [uU, zt.enc, List.map_cons, List.map_nil] at hcall hget hs
    refine zu Tryz.func10 rfl rfl ?_
    simp (disch := omega) only [↓GO, ↓DRW, GA, ren, zA, zd, refs, zb, cst, zl, zG, z7, E.load, E.store, zF, isC, bin, zH, zI, una, z8, za, zh, zJ, blt, fnV, asArg, ze, zn, zo, zj, zi, zg, zk, zr, z6, zD, zE, E.mkS, zc, unN, zK, zm, zz, zB, zf, zL, zq, GS, simprocAttr, zt.zT, c, c0, hget, zx, e1, hg, Int.toNat_natCast, hcall, hs]
    exact IH
theorem gu (cs : List zt) (hl : cs.length ≤ 1048576) (hc : ∀ c ∈ cs, uU c) : zC (EV Tryz.prog pol) 10 [.t (.list 3 (zt.zW cs))] = some (.t (.list 3 (zt.zW cs))) := by
  apply zw
  refine zy rfl Tryz.func10 rfl (by kernel_rfl) ?_
  unfold Tryz.f10
  have h1 : ¬ ((cs.length : Int) < 0) := by omega
  have h2 : ¬ (cs.length * 48 > 140737488355328) := by omega
  have h3 : ¬ (cs.length > 140737488355328) := by omega
  have hz : List.replicate cs.length [T.str [], .str [], .str []] = wB (zt.zW cs) tF 0 := by rw [tA, zt.zT]; rfl
  have IH := s8 cs hl hc cs.length 0 (by omega) (by omega)
  simp only [Int.natCast_zero] at IH
  have ht : (zt.zW cs).take cs.length = zt.zW cs := by rw [← zt.zT cs]; simp
  simp (disch := omega) only [↓GO, ↓DRW, GA, ren, zA, zd, refs, zb, cst, zl, zG, z7, E.load, E.store, zF, isC, bin, zH, zI, una, z8, za, zh, zJ, blt, fnV, asArg, ze, zn, zo, zj, zi, zg, zk, zr, z6, zD, zE, E.mkS, zc, unN, zK, zm, zz, zB, zf, zL, zq, GS, simprocAttr, zt.zT, Int.toNat_natCast, h1, h2, h3, hz, IH, ne_eq, not_true_eq_false, ht]
theorem oN (cs : List zt) (hl : cs.length ≤ 1048576) (hc : ∀ c ∈ cs, sx c) : ∀ (d i : Nat), cs.length - i = d → i ≤ cs.length →
    EV Tryz.prog pol (.loop 14 58 0 [.t (.list 3 (zt.zW cs)), .t (.list 3 (zt.zW cs)), .t (.int .i64 (i : Int))] []) = some (.loop (.exit 0) [.bad] [])
  | 0, i, hd, hi => by
    have hi' : i = cs.length := by omega
    subst hi'
    refine zu Tryz.func14 rfl rfl ?_
    have c : decide (((cs.length : Nat) : Int) < ((cs.length : Nat) : Int)) = false := by simp
    simp only [↓GO, ↓DRW, GA, ren, zA, zd, refs, zb, cst, zl, zG, z7, E.load, E.store, zF, isC, bin, zH, zI, una, z8, za, zh, zJ, blt, fnV, asArg, ze, zn, zo, zj, zi, zg, zk, zr, z6, zD, zE, E.mkS, zc, unN, zK, zm, zz, zB, zf, zL, zq, GS, simprocAttr, zt.zT, c]
  | d + 1, i, hd, hi => by
    have hlt : i < cs.length := by omega
    have c : decide ((i : Int) < ((cs.length : Nat) : Int)) = true := by simp; omega
    have IH := oN cs hl hc d (i + 1) (by omega) (by omega)
    have e1 : (i : Int) + 1 = ((i + 1 : Nat) : Int) := by omega
    have hcall := hc _ (List.getElem_mem hlt)
    have hget := zt.yT cs i hlt
    generalize hci : cs[i] = ci at hcall hget
    obtain ⟨name, range, text⟩ := ci
    simp only [sx, zt.enc, List.map_cons, List.map_nil] at hcall hget
    refine zu Tryz.func14 rfl rfl ?_
    simp (disch := omega) only [↓GO, ↓DRW, GA, ren, zA, zd, refs, zb, cst, zl, zG, z7, E.load, E.store, zF, isC, bin, zH, zI, una, z8, za, zh, zJ, blt, fnV, asArg, ze, zn, zo, zj, zi, zg, zk, zr, z6, zD, zE, E.mkS, zc, unN, zK, zm, zz, zB, zf, zL, zq, GS, simprocAttr, zt.zT, c, hget, zx, e1, hcall]
    exact IH
theorem gx (cs : List zt) (hl : cs.length ≤ 1048576) (hc : ∀ c ∈ cs, sx c) : zC (EV Tryz.prog pol) 14 [.t (.list 3 (zt.zW cs)), .t (.list 3 (zt.zW cs))] = some (.t (.bool true)) := by
  apply zw
  refine zy rfl Tryz.func14 rfl (by kernel_rfl) ?_
  unfold Tryz.f14
  have IH := oN cs hl hc cs.length 0 (by omega) (by omega)
  simp only [Int.natCast_zero] at IH
  simp only [↓GO, ↓DRW, GA, ren, zA, zd, refs, zb, cst, zl, zG, z7, E.load, E.store, zF, isC, bin, zH, zI, una, z8, za, zh, zJ, blt, fnV, asArg, ze, zn, zo, zj, zi, zg, zk, zr, z6, zD, zE, E.mkS, zc, unN, zK, zm, zz, zB, zf, zL, zq, GS, simprocAttr, zt.zT, IH, bne_self_eq_false]
end Go.Proofs.YtmcephnfcciloaaGreatDoor
/- Notices laid anew, marked. Conditions: those of each lemma. -/
namespace Go.Proofs.YtmcephnfcciloaaGreatDoor
open E
set_option linter.unusedSimpArgs false
set_option linter.unusedVariables false
set_option maxRecDepth 100000
theorem Sg (cs : List zt) (hl : cs.length ≤ 1048576) (hc : ∀ c ∈ cs, uU c) : EV Tryz.prog pol (.callO false 10 [.t (.list 3 (zt.zW cs))] []) = some (.call (.sl 0 0 cs.length (some cs.length)) [.ts 3 (zt.zW cs)]) := by
  refine yM Tryz.func10 rfl (by kernel_rfl) ?_
  unfold Tryz.f10
  have h1 : ¬ ((cs.length : Int) < 0) := by omega
  have h2 : ¬ (cs.length * 48 > 140737488355328) := by omega
  have h3 : ¬ (cs.length > 140737488355328) := by omega
  have hz : List.replicate cs.length [T.str [], .str [], .str []] = wB (zt.zW cs) tF 0 := by rw [tA, zt.zT]; rfl
  have IH := s8 cs hl hc cs.length 0 (by omega) (by omega)
  simp only [Int.natCast_zero] at IH
  simp (disch := omega) only [E.mkS, ↓GO, ↓DRW, GA, ren, zA, zd, refs, zb, cst, zl, zG, z7, E.load, E.store, zF, isC, bin, zH, zI, una, z8, za, zh, zJ, blt, fnV, asArg, ze, zn, zo, zj, zi, zg, zk, zr, z6, zD, zE, E.mkS, zc, unN, zK, zm, zz, zB, zf, zL, zq, GS, simprocAttr, zt.zT, Int.toNat_natCast, h1, h2, h3, hz, IH, ne_eq, not_true_eq_false]
def sE : Nat → Nat → List zt
  | 0, _ => []
  | n + 1, k => ⟨mkT k, mkT (k + 1), mkT (k + 2)⟩ :: sE n (k + 3)
theorem ei : ∀ n k, (sE n k).length = n
  | 0, _ => rfl
  | n + 1, k => by rw [sE, List.length_cons, ei n (k + 3)]
theorem kR : ∀ n k, sE (n + 1) k = sE n k ++ [⟨mkT (k + 3 * n), mkT (k + 3 * n + 1), mkT (k + 3 * n + 2)⟩]
  | 0, k => rfl
  | n + 1, k => by
    rw [sE, kR n (k + 3), sE, List.cons_append, show k + 3 + 3 * n = k + 3 * (n + 1) by omega]
theorem ew (cs : List zt) (hl : cs.length ≤ 4194304) (cap : Option Nat) (k : Nat) (hk : k ≤ 1073741824) : ∀ (rest pre : List zt), cs = pre ++ rest →
    EV Tryz.prog pol (.loop 16 26 1 [.sl 0 0 cs.length cap, .t (.int .i64 ((k + 3 * pre.length : Nat) : Int)), .t (.int .i64 (pre.length : Int))] [.ts 3 (zt.zW (sE pre.length k) ++ zt.zW rest)])
      = some (.loop (.exit 0) [.t (.int .i64 ((k + 3 * cs.length : Nat) : Int))] [.ts 3 (zt.zW (sE cs.length k))])
  | [], pre, hs => by
    have c : decide ((pre.length : Int) < (cs.length : Int)) = false := by simp [hs]
    have e : cs = pre := by simpa using hs
    simp only [show zt.zW [] = [] from rfl, List.append_nil]
    refine zu Tryz.func16 rfl rfl ?_
    simp (disch := ((try simp only [LL]); omega)) only [↓GO, ↓DRW, GA, ren, zA, zd, refs, zb, cst, zl, zG, z7, E.load, E.store, zF, isC, bin, zH, zI, una, z8, za, zh, zJ, blt, fnV, asArg, ze, zn, zo, zj, zi, zg, zk, zr, z6, zD, zE, E.mkS, zc, unN, zK, zm, zz, zB, zf, zL, zq, GS, simprocAttr, GZ, c]
    rw [e]
  | x :: rest, pre, hs => by
    have c : decide ((pre.length : Int) < (cs.length : Int)) = true := by simp [hs]; omega
    have c0 : decide ((0 : Int) ≤ (pre.length : Int)) = true := by simp
    have c00 : (0 : Int) ≤ (pre.length : Int) := by omega
    have hlen : pre.length + rest.length + 1 ≤ cs.length := by rw [hs]; simp; omega
    have hm := qf (k + 3 * pre.length) (by omega)
    have hm2 := qf (k + 3 * pre.length + 1) (by omega)
    have hm3 := qf (k + 3 * pre.length + 2) (by omega)
    have IH := ew cs hl cap k hk rest (pre ++ [x]) (by rw [hs]; simp)
    rw [show (pre ++ [x]).length = pre.length + 1 by simp, kR, show zt.zW (sE pre.length k ++ [⟨mkT (k + 3 * pre.length), mkT (k + 3 * pre.length + 1), mkT (k + 3 * pre.length + 2)⟩]) = zt.zW (sE pre.length k) ++ [[.str (mkT (k + 3 * pre.length)), .str (mkT (k + 3 * pre.length + 1)), .str (mkT (k + 3 * pre.length + 2))]] by simp [zt.zW, zt.enc], List.append_assoc, List.cons_append, List.nil_append] at IH
    rw [show k + 3 * (pre.length + 1) = k + 3 * pre.length + 3 by omega] at IH
    have hAl : (zt.zW (sE pre.length k)).length = pre.length := by rw [zt.zT, ei]
    rw [show zt.zW (x :: rest) = [.str x.name, .str x.range, .str x.text] :: zt.zW rest from rfl]
    have hg1 := fun y => qT (zt.zW (sE pre.length k)) (zt.zW rest) y pre.length hAl
    have hs1 := fun y z => qS (zt.zW (sE pre.length k)) (zt.zW rest) y z pre.length hAl
    clear hs
    generalize zt.zW (sE pre.length k) = A at *
    generalize mkT (k + 3 * pre.length + 2) = mt3 at *
    generalize mkT (k + 3 * pre.length + 1) = mt2 at *
    generalize mkT (k + 3 * pre.length) = mt at *
    have hkp : k + 3 * pre.length ≤ 1090519040 := by omega
    generalize k + 3 * pre.length = kp at *
    have w : IntKind.i64.wrap ((kp : Int) + 1) = ((kp + 1 : Nat) : Int) := by rw [zx (by omega)]; omega
    have w1 : IntKind.i64.wrap (((kp + 1 : Nat) : Int) + 1) = ((kp + 2 : Nat) : Int) := by rw [zx (by omega)]; omega
    have w3 : IntKind.i64.wrap (((kp + 2 : Nat) : Int) + 1) = ((kp + 3 : Nat) : Int) := by rw [zx (by omega)]; omega
    have w2 : IntKind.i64.wrap ((pre.length : Int) + 1) = ((pre.length + 1 : Nat) : Int) := by rw [zx (by omega)]; omega
    refine zu Tryz.func16 rfl rfl ?_
    simp (disch := ((try simp only [LL]); omega)) only [↓GO, ↓DRW, GA, ren, zA, zd, refs, zb, cst, zl, zG, z7, E.load, E.store, zF, isC, bin, zH, zI, una, z8, za, zh, zJ, blt, fnV, asArg, ze, zn, zo, zj, zi, zg, zk, zr, z6, zD, zE, E.mkS, zc, unN, zK, zm, zz, zB, zf, zL, zq, GS, simprocAttr, GZ, c, c0, c00, if_true, Int.toNat_natCast, hm, hm2, hm3, hg1, hs1, w, w1, w2, w3, IH]
theorem WH (cs : List zt) (hl : cs.length ≤ 4194304) (cap : Option Nat) (k : Nat) (hk : k ≤ 1073741824) (n : Nat) (hn : n = cs.length) :
    EV Tryz.prog pol (.callO false 16 [.sl 0 0 n cap, .t (.int .i64 (k : Int))] [.ts 3 (zt.zW cs)]) = some (.call (.t (.int .i64 ((k + 3 * cs.length : Nat) : Int))) [.ts 3 (zt.zW (sE cs.length k))]) := by
  subst hn
  have L := ew cs hl cap k hk cs [] rfl
  simp only [List.length_nil, Int.natCast_zero, sE, show zt.zW [] = [] from rfl, List.nil_append, Nat.mul_zero, Nat.add_zero] at L
  refine yM Tryz.func16 rfl (by kernel_rfl) ?_
  unfold Tryz.f16
  simp (disch := ((try simp only [LL]); omega)) only [↓GO, ↓DRW, GA, ren, zA, zd, refs, zb, cst, zl, zG, z7, E.load, E.store, zF, isC, bin, zH, zI, una, z8, za, zh, zJ, blt, fnV, asArg, ze, zn, zo, zj, zi, zg, zk, zr, z6, zD, zE, E.mkS, zc, unN, zK, zm, zz, zB, zf, zL, zq, GS, simprocAttr, GZ, L]
end Go.Proofs.YtmcephnfcciloaaGreatDoor
/- The library's searches, at packs and sums. Conditions: those of each lemma. -/
namespace Go.Proofs.YtmcephnfcciloaaGreatDoor
open E
set_option linter.unusedSimpArgs false
set_option linter.unusedVariables false
set_option maxRecDepth 100000
theorem oL (g : Nat) (caps : List T) (p : zN → Bool) (es : List zN) (hl : es.length ≤ 4611686018427387904) (hp : ∀ x ∈ es, zC (EV Tryz.prog pol) g (.agg (x.enc.map .t) :: caps.map .t) = some (.t (.bool (p x)))) : ∀ (rest pre : List zN), es = pre ++ rest →
    EV Tryz.prog pol (.loop 75 26 0 [.t (.list 6 (zN.zW es)), .t (.fn g caps), .t (.int .i64 (es.length : Int)), .t (.int .i64 (pre.length : Int))] []) = some (match vv p rest pre.length with | some i => .loop .ret [.t (.int .i64 (i : Int))] [] | none => .loop (.exit 0) [.bad] [])
  | [], pre, hs => by
    have c : decide ((pre.length : Int) < (es.length : Int)) = false := by simp [hs]
    refine zu Tryz.func75 rfl rfl ?_
    simp only [↓GO, ↓DRW, GA, ren, zA, zd, refs, zb, cst, zl, zG, z7, E.load, E.store, zF, isC, bin, zH, zI, una, z8, za, zh, zJ, blt, fnV, asArg, ze, zn, zo, zj, zi, zg, zk, zr, z6, zD, zE, E.mkS, zc, unN, zK, zm, zz, zB, zf, zL, zq, GS, simprocAttr, c, vv]
  | b :: rest, pre, hs => by
    have c : decide ((pre.length : Int) < (es.length : Int)) = true := by simp [hs]; omega
    have hi : pre.length < es.length := by rw [hs]; simp
    have hget := zN.yT es pre.length hi
    have hgb : es[pre.length] = b := by simp [hs]
    rw [hgb] at hget
    have hb := hp b (by rw [hs]; simp)
    have e1 : (pre.length : Int) + 1 = ((pre ++ [b]).length : Int) := by simp
    have IH := oL g caps p es hl hp rest (pre ++ [b]) (by rw [hs]; simp)
    refine zu Tryz.func75 rfl rfl ?_
    simp only [vv]
    cases hpb : p b with
    | true =>
      rw [hpb] at hb
      simp (disch := omega) only [↓GO, ↓DRW, GA, ren, zA, zd, refs, zb, cst, zl, zG, z7, E.load, E.store, zF, isC, bin, zH, zI, una, z8, za, zh, zJ, blt, fnV, asArg, ze, zn, zo, zj, zi, zg, zk, zr, z6, zD, zE, E.mkS, zc, unN, zK, zm, zz, zB, zf, zL, zq, GS, simprocAttr, zN.zT, c, hget, zN.vg, zN.wo, zx, hb]
    | false =>
      rw [hpb] at hb
      simp (disch := omega) only [↓GO, ↓DRW, GA, ren, zA, zd, refs, zb, cst, zl, zG, z7, E.load, E.store, zF, isC, bin, zH, zI, una, z8, za, zh, zJ, blt, fnV, asArg, ze, zn, zo, zj, zi, zg, zk, zr, z6, zD, zE, E.mkS, zc, unN, zK, zm, zz, zB, zf, zL, zq, GS, simprocAttr, zN.zT, c, hget, zN.vg, zN.wo, zx, hb]
      rw [e1, IH]
      simp
theorem gw (g : Nat) (caps : List T) (p : zN → Bool) (es : List zN) (hl : es.length ≤ 4611686018427387904) (hp : ∀ x ∈ es, zC (EV Tryz.prog pol) g (.agg (x.enc.map .t) :: caps.map .t) = some (.t (.bool (p x)))) :
    zC (EV Tryz.prog pol) 75 [.t (.list 6 (zN.zW es)), .t (.fn g caps)] = some (.t (.int .i64 (ixI (vv p es 0)))) := by
  have IH := oL g caps p es hl hp es [] rfl
  simp only [List.length_nil, Int.natCast_zero] at IH
  apply zw
  refine zy rfl Tryz.func75 rfl (by kernel_rfl) ?_
  unfold Tryz.f75
  cases hf : vv p es 0 with
  | none => rw [hf] at IH; simp only [↓GO, ↓DRW, GA, ren, zA, zd, refs, zb, cst, zl, zG, z7, E.load, E.store, zF, isC, bin, zH, zI, una, z8, za, zh, zJ, blt, fnV, asArg, ze, zn, zo, zj, zi, zg, zk, zr, z6, zD, zE, E.mkS, zc, unN, zK, zm, zz, zB, zf, zL, zq, GS, simprocAttr, zN.zT, IH, ixI]
  | some i => rw [hf] at IH; simp only [↓GO, ↓DRW, GA, ren, zA, zd, refs, zb, cst, zl, zG, z7, E.load, E.store, zF, isC, bin, zH, zI, una, z8, za, zh, zJ, blt, fnV, asArg, ze, zn, zo, zj, zi, zg, zk, zr, z6, zD, zE, E.mkS, zc, unN, zK, zm, zz, zB, zf, zL, zq, GS, simprocAttr, zN.zT, IH, ixI]
end Go.Proofs.YtmcephnfcciloaaGreatDoor

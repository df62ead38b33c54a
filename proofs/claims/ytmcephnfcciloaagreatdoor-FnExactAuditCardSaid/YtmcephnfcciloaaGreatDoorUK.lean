/- Joined: K15 K16 K17 K18 K19 W7 W8 M1 M2 M3 M4 M5 M6 M7 M8 M9 B1 B2 B3 B4 G4 B9. Conditions: those of each lemma. -/
import Derived.Test.YtmcephnfcciloaaGreatDoorUJ
import Derived.Test.YtmcephnfcciloaaGreatDoorUH
set_option linter.unusedVariables false
set_option linter.unusedSimpArgs false
namespace Go.Proofs.YtmcephnfcciloaaGreatDoor
open E
set_option linter.unusedSimpArgs false
set_option linter.unusedVariables false
set_option maxRecDepth 100000
def bT : Option Bd → V
  | some b => .tup [.agg [.t (.str b.1), .t (.str b.2)], .t (.bool true)]
  | none => .tup [.agg [.t (.str []), .t (.str [])], .t (.bool false)]
theorem Sf (s : Str) : alT s = bT (x6 s) := by
  unfold alT bT
  cases x6 s with
  | none => rfl
  | some b => obtain ⟨a, b⟩ := b; rfl
theorem mQ (x : UInt8) (c : UInt8) : ((x.toNat : Int) == (c.toNat : Int)) = (x == c) := by
  rw [Bool.eq_iff_iff]; simp only [beq_iff_eq]
  constructor
  · intro h; exact UInt8.toNat_inj.1 (by omega)
  · intro h; rw [h]
theorem Tw (s : Str) (hl : s.length ≤ 1048700) : zE (EV Tryz.prog pol) 116 [.t (.str s)] = some (.t (.bool (isE s))) := by
  have h := oz s hl
  unfold rvT at h
  unfold isE isV
  generalize (zA s).1 = v at *
  simp only [Ver.enc, List.map_cons, List.map_nil] at h
  cases hk : (zA s).2 <;> rw [hk] at h <;> cases hn : (s == [])
  all_goals
    apply zu
    refine zw rfl Tryz.func116 rfl (by kernel_rfl) ?_
    unfold Tryz.f116
    simp (disch := ((try simp only [LL]); omega)) only [↓GO, ↓DRW, GA, ren, zB, zd, refs, zb, cst, zl, zH, z7, E.load, E.store, zG, isC, bin, zI, zJ, una, z8, za, zh, zK, blt, fnV, asArg, ze, zn, zo, zj, zi, zg, zk, zr, z6, zD, zF, E.mkS, zc, unN, zM, zm, zy, zC, zf, zN, zq, GS, simprocAttr, GZ, h, hn]
theorem V9 (l : List Bd) (hl : l.length ≤ 4194304) (hb : ∀ b ∈ l, b.1.length ≤ 1048700 ∧ b.2.length ≤ 1048700) : ∀ (rest pre : List Bd), l = pre ++ rest →
    EV Tryz.prog pol (.loop 88 26 0 [.t (.list 2 (bdT l)), .t (.int .i64 (pre.length : Int))] []) = some (cond (rest.all fun b => isE b.1 && isE b.2) (.loop (.exit 0) [.t (.list 2 (bdT l)), .bad] []) (.loop .ret [.t (.list 2 (bdT l)), .t (.bool false)] []))
  | [], pre, hs => by
    have c : decide ((pre.length : Int) < (l.length : Int)) = false := by simp [hs]
    simp only [List.all_nil, cond_true]
    refine zz Tryz.func88 rfl rfl ?_
    simp (disch := ((try simp only [LL]); omega)) only [↓GO, ↓DRW, GA, ren, zB, zd, refs, zb, cst, zl, zH, z7, E.load, E.store, zG, isC, bin, zI, zJ, una, z8, za, zh, zK, blt, fnV, asArg, ze, zn, zo, zj, zi, zg, zk, zr, z6, zD, zF, E.mkS, zc, unN, zM, zm, zy, zC, zf, zN, zq, GS, simprocAttr, GZ, c, xO]
  | x :: rest, pre, hs => by
    have c : decide ((pre.length : Int) < (l.length : Int)) = true := by simp [hs]; omega
    have hget : (bdT l)[pre.length]? = some [.str x.1, .str x.2] := by rw [hs]; exact wB (fun b : Bd => [T.str b.1, T.str b.2]) pre x rest
    have hlen : pre.length + rest.length + 1 ≤ l.length := by rw [hs]; simp; omega
    have hx := hb x (by rw [hs]; simp)
    have h1 := Tw x.1 hx.1
    have h2 := Tw x.2 hx.2
    have IH := V9 l hl hb rest (pre ++ [x]) (by rw [hs]; simp)
    rw [show ((pre ++ [x]).length : Int) = (pre.length : Int) + 1 by simp] at IH
    clear hs hb
    rw [List.all_cons]
    generalize isE x.1 = a1 at *
    generalize isE x.2 = a2 at *
    cases a1 <;> cases a2
    all_goals
      refine zz Tryz.func88 rfl rfl ?_
      simp (disch := ((try simp only [LL]); omega)) only [↓GO, ↓DRW, GA, ren, zB, zd, refs, zb, cst, zl, zH, z7, E.load, E.store, zG, isC, bin, zI, zJ, una, z8, za, zh, zK, blt, fnV, asArg, ze, zn, zo, zj, zi, zg, zk, zr, z6, zD, zF, E.mkS, zc, unN, zM, zm, zy, zC, zf, zN, zq, GS, simprocAttr, GZ, c, hget, h1, h2, zx, xO, IH]
theorem jR (l : List Bd) (hl : l.length ≤ 4194304) (hb : ∀ b ∈ l, b.1.length ≤ 1048700 ∧ b.2.length ≤ 1048700) : zE (EV Tryz.prog pol) 88 [.t (.list 2 (bdT l))] = some (.t (.bool (xk l))) := by
  have L := V9 l hl hb l [] rfl
  have h := xN (l.length : Int) 1 8
  simp only [List.length_nil, Int.natCast_zero] at L
  unfold xk
  generalize B2 (l.length : Int) 1 8 = b2 at *
  cases ha : (l.all fun b => isE b.1 && isE b.2) <;> rw [ha] at L <;> simp only [cond_true, cond_false] at L
  all_goals
    apply zu
    refine zw rfl Tryz.func88 rfl (by kernel_rfl) ?_
    unfold Tryz.f88
    simp (disch := ((try simp only [LL]); omega)) only [↓GO, ↓DRW, GA, ren, zB, zd, refs, zb, cst, zl, zH, z7, E.load, E.store, zG, isC, bin, zI, zJ, una, z8, za, zh, zK, blt, fnV, asArg, ze, zn, zo, zj, zi, zg, zk, zr, z6, zD, zF, E.mkS, zc, unN, zM, zm, zy, zC, zf, zN, zq, GS, simprocAttr, GZ, L, h, xO]
theorem Vs (s : Str) (v : Ver) (p : Int) (hs : v.sm) (hp : p = 0 ∨ p = 1 ∨ p = 2) (h1 : -1 ≤ v.maj ∧ v.maj ≤ 999999999) (h2 : -1 ≤ v.min ∧ v.min ≤ 999999999) (h3 : -1 ≤ v.pat ∧ v.pat ≤ 999999999) :
    zE (EV Tryz.prog pol) 109 [.t (.str s), .agg (v.enc.map .t), .t (.int .i64 p)] = some (bT (mR v s p)) := by
  have d := jE v p hs hp h1 h2 h3
  unfold mR bT
  generalize vk v p = bl at *
  obtain ⟨t, ok⟩ := bl
  simp only [Ver.enc, List.map_cons, List.map_nil] at d ⊢
  cases ok <;> simp only [cond_true, cond_false] at d ⊢
  all_goals
    apply zu
    refine zw rfl Tryz.func109 rfl (by kernel_rfl) ?_
    unfold Tryz.f109
    simp (disch := ((try simp only [LL]); omega)) only [↓GO, ↓DRW, GA, ren, zB, zd, refs, zb, cst, zl, zH, z7, E.load, E.store, zG, isC, bin, zI, zJ, una, z8, za, zh, zK, blt, fnV, asArg, ze, zn, zo, zj, zi, zg, zk, zr, z6, zD, zF, E.mkS, zc, unN, zM, zm, zy, zC, zf, zN, zq, GS, simprocAttr, GZ, d]
theorem XC (v : Ver) : zE (EV Tryz.prog pol) 110 [.agg (v.enc.map .t)] = some (.t (.int .i64 (vO v))) := by
  unfold vO
  simp only [Ver.enc, List.map_cons, List.map_nil]
  cases h1 : decide (v.maj > 0) <;> cases h2 : decide (v.min > 0) <;> simp only [cond_true, cond_false]
  all_goals
    apply zu
    refine zw rfl Tryz.func110 rfl (by kernel_rfl) ?_
    unfold Tryz.f110
    simp (disch := ((try simp only [LL]); omega)) only [↓GO, ↓DRW, GA, ren, zB, zd, refs, zb, cst, zl, zH, z7, E.load, E.store, zG, isC, bin, zI, zJ, una, z8, za, zh, zK, blt, fnV, asArg, ze, zn, zo, zj, zi, zg, zk, zr, z6, zD, zF, E.mkS, zc, unN, zM, zm, zy, zC, zf, zN, zq, GS, simprocAttr, GZ, h1, h2]
theorem Zv (v : Ver) : vO v = 0 ∨ vO v = 1 ∨ vO v = 2 := by
  unfold vO
  cases decide (v.maj > 0) <;> cases decide (v.min > 0) <;> simp
theorem UB (s : Str) (hl : s.length ≤ 4194304) : zE (EV Tryz.prog pol) 151 [.t (.str s)] = some (.t (.list 1 (y6 (yi 32 s)))) := by
  have h := mN s 32 hl
  rw [show (((32 : UInt8).toNat : Nat) : Int) = 32 from rfl] at h
  apply zu
  refine zw rfl Tryz.func151 rfl (by kernel_rfl) ?_
  unfold Tryz.f151
  simp (disch := ((try simp only [LL]); omega)) only [↓GO, ↓DRW, GA, ren, zB, zd, refs, zb, cst, zl, zH, z7, E.load, E.store, zG, isC, bin, zI, zJ, una, z8, za, zh, zK, blt, fnV, asArg, ze, zn, zo, zj, zi, zg, zk, zr, z6, zD, zF, E.mkS, zc, unN, zM, zm, zy, zC, zf, zN, zq, GS, simprocAttr, GZ, h]
theorem Xr (s : Str) (hl : s.length ≤ 1048600) : zE (EV Tryz.prog pol) 112 [.t (.str s)] = some (bT (wO s)) := by
  have h1 := mN s 46 (by omega)
  rw [show (((46 : UInt8).toNat : Nat) : Int) = 46 from rfl] at h1
  have hfl : (wv s).length ≤ 1048700 := by unfold wv; cases (((yi 46 s).length : Int) == 1) <;> simp <;> omega
  have h2 := oz (wv s) hfl
  obtain ⟨m1, m2, m3, m4, m5, m6, m7⟩ := yW (wv s) hfl
  have h3 := xN ((yi 46 s).length : Int) 1 2
  have hg := jQ (zA (wv s)).1.pre
  have h4 := fun hp => jE (zA (wv s)).1 (((yi 46 s).length : Int) - 1) m1 hp ⟨m3, m2⟩ ⟨m5, m4⟩ ⟨m7, m6⟩
  have hcn : 1 ≤ (yi 46 s).length := by
    cases hc : yi 46 s with
    | nil => exact absurd hc (yU 46 s)
    | cons p q => simp
  have hbk := xL 46 s
  have hB : B2 ((yi 46 s).length : Int) 1 2 = true → ((yi 46 s).length : Int) - 1 = 0 ∨ ((yi 46 s).length : Int) - 1 = 1 ∨ ((yi 46 s).length : Int) - 1 = 2 := fun h => by
    unfold B2 at h
    simp only [Bool.and_eq_true, decide_eq_true_eq] at h
    omega
  have h5 := fun h => h4 (hB h)
  clear h4 hB
  unfold wO isV
  unfold rvT at h2
  have hfull : wv s = cond (((yi 46 s).length : Int) == 1) (s ++ [46, 48, 46, 48]) (s ++ [46, 48]) := rfl
  generalize wv s = f at *
  generalize (zA f).2 = ok at *
  generalize (zA f).1 = v at *
  generalize vk v (((yi 46 s).length : Int) - 1) = bl at *
  obtain ⟨bt, bo⟩ := bl
  generalize B2 ((yi 46 s).length : Int) 1 2 = b2 at *
  generalize yi 46 s = ps at *
  simp only [Ver.enc, List.map_cons, List.map_nil] at h2 h5 ⊢
  cases h46 : ((ps.length : Int) == 1) <;> rw [h46] at hfull <;> simp only [cond_true, cond_false] at hfull <;> subst hfull <;>
    cases ok <;> cases b2 <;> cases hpre : (v.pre == []) <;> rw [hpre] at hg <;> simp only [Bool.not_true, Bool.not_false, Bool.or_true, Bool.or_false, Bool.true_or, Bool.false_or, cond_true, cond_false, bT] at hg ⊢
  all_goals simp only [true_implies, false_implies, reduceCtorEq] at h5
  all_goals cases bo
  all_goals try simp only [cond_true, cond_false]
  all_goals
    apply zu
    refine zw rfl Tryz.func112 rfl (by kernel_rfl) ?_
    unfold Tryz.f112
    simp (disch := ((try simp only [LL]); omega)) only [↓GO, ↓DRW, GA, ren, zB, zd, refs, zb, cst, zl, zH, z7, E.load, E.store, zG, isC, bin, zI, zJ, una, z8, za, zh, zK, blt, fnV, asArg, ze, zn, zo, zj, zi, zg, zk, zr, z6, zD, zF, E.mkS, zc, unN, zM, zm, zy, zC, zf, zN, zq, GS, simprocAttr, GZ, h1, h2, h3, h46, hg, h5, zP, zx, wh]
end Go.Proofs.YtmcephnfcciloaaGreatDoor
/- Ranges, by the reference: signs, parts. Conditions: those of each lemma. -/
namespace Go.Proofs.YtmcephnfcciloaaGreatDoor
open E
set_option linter.unusedSimpArgs false
set_option linter.unusedVariables false
set_option maxRecDepth 100000
theorem WY (b : Bd) : xk [b] = (isE b.1 && isE b.2) := by
  unfold xk
  simp [B2]
/-- the head of a word -/
theorem qX (x : Str) : (ltW x = false ∧ decide ((x.length : Int) > 1) = false) ∨ (∃ a r, x = a :: r ∧ decide ((x.length : Int) > 1) = true ∧ ltW x = (a == 60)) := by
  unfold ltW
  cases h : decide ((x.length : Int) > 1) with
  | false => left; simp
  | true =>
    right
    cases x with
    | nil => simp at h
    | cons a r => exact ⟨a, r, rfl, rfl, by simp [hdB]⟩
theorem kg (x : Str) : (geW x = false ∧ decide ((x.length : Int) > 2) = false) ∨ (decide ((x.length : Int) > 2) = true ∧ geW x = (x.take 2 == [62, 61])) := by
  unfold geW
  cases h : decide ((x.length : Int) > 2) with
  | false => left; simp
  | true => right; simp
theorem l_sg1 (x : Str) : EV Tryz.prog pol (.loop 111 122 0 [.ptr 0 0 0, .t (.list 1 [[.str x]]), .ptr 1 0 0, .t (.int .i64 0)] [.vs 2 [[.t (.str []), .t (.str [])]], .vs 2 [[.t (.str []), .t (.str [])]]])
    = some (cond (geW x) (.loop (.exit 0) [.ptr 0 0 0, .bad, .t (.list 1 [[.str x]]), .ptr 1 0 0] [.vs 2 [[.t (.str []), .t (.str [])]], .vs 2 [[.t (.str (x.drop 2)), .t (.str [])]]])
      (cond (ltW x) (.loop (.exit 0) [.ptr 0 0 0, .bad, .t (.list 1 [[.str x]]), .ptr 1 0 0] [.vs 2 [[.t (.str []), .t (.str [])]], .vs 2 [[.t (.str []), .t (.str (x.drop 1))]]])
        (.loop .ret [.ptr 0 0 0, .t (.bool false), .t (.list 1 [[.str x]]), .ptr 1 0 0] [.vs 2 [[.t (.str []), .t (.str [])]], .vs 2 [[.t (.str []), .t (.str [])]]]))) := by
  have E1 : ∀ lo' hi' : Str, EV Tryz.prog pol (.loop 111 122 0 [.ptr 0 0 0, .t (.list 1 [[.str x]]), .ptr 1 0 0, .t (.int .i64 1)] [.vs 2 [[.t (.str []), .t (.str [])]], .vs 2 [[.t (.str lo'), .t (.str hi')]]]) = some (.loop (.exit 0) [.ptr 0 0 0, .bad, .t (.list 1 [[.str x]]), .ptr 1 0 0] [.vs 2 [[.t (.str []), .t (.str [])]], .vs 2 [[.t (.str lo'), .t (.str hi')]]]) := fun lo' hi' => by
    refine zz Tryz.func111 rfl rfl ?_
    simp (disch := ((try simp only [LL]); omega)) only [↓GO, ↓DRW, GA, ren, zB, zd, refs, zb, cst, zl, zH, z7, E.load, E.store, zG, isC, bin, zI, zJ, una, z8, za, zh, zK, blt, fnV, asArg, ze, zn, zo, zj, zi, zg, zk, zr, z6, zD, zF, E.mkS, zc, unN, zM, zm, zy, zC, zf, zN, zq, GS, simprocAttr, GZ, zY]
  rcases kg x with ⟨hg, g1⟩ | ⟨g1, hg⟩
  · rw [hg]
    rcases qX x with ⟨hl, g3⟩ | ⟨a, r, hx, g3, hl⟩
    · rw [hl]
      simp only [cond_false]
      refine zz Tryz.func111 rfl rfl ?_
      simp (disch := ((try simp only [LL]); omega)) only [↓GO, ↓DRW, GA, ren, zB, zd, refs, zb, cst, zl, zH, z7, E.load, E.store, zG, isC, bin, zI, zJ, una, z8, za, zh, zK, blt, fnV, asArg, ze, zn, zo, zj, zi, zg, zk, zr, z6, zD, zF, E.mkS, zc, unN, zM, zm, zy, zC, zf, zN, zq, GS, simprocAttr, GZ, g1, g3, zY, Int.reduceAdd, Int.reduceSub, zx]
    · rw [hl]
      have h0 : x[0]? = some a := by rw [hx]; rfl
      have h60 := mQ a 60
      rw [show (((60 : UInt8).toNat : Nat) : Int) = 60 from rfl] at h60
      have hxl : 1 ≤ x.length := by rw [hx]; simp
      clear hx hl
      simp only [cond_false]
      cases hh : (a == 60) <;> rw [hh] at h60 <;> simp only [cond_true, cond_false]
      all_goals
        refine zz Tryz.func111 rfl rfl ?_
        simp (disch := ((try simp only [LL]); omega)) only [↓GO, ↓DRW, GA, ren, zB, zd, refs, zb, cst, zl, zH, z7, E.load, E.store, zG, isC, bin, zI, zJ, una, z8, za, zh, zK, blt, fnV, asArg, ze, zn, zo, zj, zi, zg, zk, zr, z6, zD, zF, E.mkS, zc, unN, zM, zm, zy, zC, zf, zN, zq, GS, simprocAttr, GZ, g1, g3, h0, h60, E1, zY, Int.reduceAdd, Int.reduceSub, zx]
  · rw [hg]
    have h2 : 2 ≤ x.length := by have := of_decide_eq_true g1; omega
    cases ht : (x.take 2 == [62, 61]) with
    | true =>
      simp only [cond_true]
      refine zz Tryz.func111 rfl rfl ?_
      simp (disch := ((try simp only [LL]); omega)) only [↓GO, ↓DRW, GA, ren, zB, zd, refs, zb, cst, zl, zH, z7, E.load, E.store, zG, isC, bin, zI, zJ, una, z8, za, zh, zK, blt, fnV, asArg, ze, zn, zo, zj, zi, zg, zk, zr, z6, zD, zF, E.mkS, zc, unN, zM, zm, zy, zC, zf, zN, zq, GS, simprocAttr, GZ, g1, ht, E1, zY, Int.reduceAdd, Int.reduceSub, zx]
    | false =>
      simp only [cond_false]
      rcases qX x with ⟨hl, g3⟩ | ⟨a, r, hx, g3, hl⟩
      · have := of_decide_eq_false g3; omega
      · rw [hl]
        have h0 : x[0]? = some a := by rw [hx]; rfl
        have h60 := mQ a 60
        rw [show (((60 : UInt8).toNat : Nat) : Int) = 60 from rfl] at h60
        clear hx hl
        cases hh : (a == 60) <;> rw [hh] at h60 <;> simp only [cond_true, cond_false]
        all_goals
          refine zz Tryz.func111 rfl rfl ?_
          simp (disch := ((try simp only [LL]); omega)) only [↓GO, ↓DRW, GA, ren, zB, zd, refs, zb, cst, zl, zH, z7, E.load, E.store, zG, isC, bin, zI, zJ, una, z8, za, zh, zK, blt, fnV, asArg, ze, zn, zo, zj, zi, zg, zk, zr, z6, zD, zF, E.mkS, zc, unN, zM, zm, zy, zC, zf, zN, zq, GS, simprocAttr, GZ, g1, g3, ht, h0, h60, E1, zY, Int.reduceAdd, Int.reduceSub, zx]
/-- the first round, where there are more words -/
theorem Th (x : Str) (ws : List (List T)) (n : Nat) (hn : n = ws.length) (h2 : 2 ≤ n) (hl : n ≤ 4194304) (h0 : ws[0]? = some [.str x]) (B : xP)
    (IH : geW x = true → EV Tryz.prog pol (.loop 111 122 0 [.ptr 0 0 0, .t (.list 1 ws), .ptr 1 0 0, .t (.int .i64 1)] [.vs 2 [[.t (.str []), .t (.str [])]], .vs 2 [[.t (.str (x.drop 2)), .t (.str [])]]]) = some B) :
    EV Tryz.prog pol (.loop 111 122 0 [.ptr 0 0 0, .t (.list 1 ws), .ptr 1 0 0, .t (.int .i64 0)] [.vs 2 [[.t (.str []), .t (.str [])]], .vs 2 [[.t (.str []), .t (.str [])]]])
    = some (cond (geW x) B (.loop .ret [.ptr 0 0 0, .t (.bool false), .t (.list 1 ws), .ptr 1 0 0] [.vs 2 [[.t (.str []), .t (.str [])]], .vs 2 [[.t (.str []), .t (.str [])]]])) := by
  have c0 : decide ((0 : Int) < (ws.length : Int)) = true := decide_eq_true (by omega)
  have c1 : ((0 : Int) == (ws.length : Int) - 1) = false := by rw [beq_eq_false_iff_ne]; omega
  have hg0 : uG ws 0 = some [.str x] := by rw [uf]; exact h0
  subst hn
  rcases kg x with ⟨hg, g1⟩ | ⟨g1, hg⟩
  · rw [hg]
    simp only [cond_false]
    refine zz Tryz.func111 rfl rfl ?_
    simp (disch := ((try simp only [LL]); omega)) only [↓GO, ↓DRW, GA, ren, zB, zd, refs, zb, cst, zl, zH, z7, E.load, E.store, zG, isC, bin, zI, zJ, una, z8, za, zh, zK, blt, fnV, asArg, ze, zn, zo, zj, zi, zg, zk, zr, z6, zD, zF, E.mkS, zc, unN, zM, zm, zy, zC, zf, zN, zq, GS, simprocAttr, GZ, c0, c1, h0, hg0, g1, zY, zx]
  · rw [hg] at IH ⊢
    have hx2 : 2 ≤ x.length := by have := of_decide_eq_true g1; omega
    cases ht : (x.take 2 == [62, 61]) <;> rw [ht] at IH <;> simp only [cond_true, cond_false]
    · refine zz Tryz.func111 rfl rfl ?_
      simp (disch := ((try simp only [LL]); omega)) only [↓GO, ↓DRW, GA, ren, zB, zd, refs, zb, cst, zl, zH, z7, E.load, E.store, zG, isC, bin, zI, zJ, una, z8, za, zh, zK, blt, fnV, asArg, ze, zn, zo, zj, zi, zg, zk, zr, z6, zD, zF, E.mkS, zc, unN, zM, zm, zy, zC, zf, zN, zq, GS, simprocAttr, GZ, c0, c1, h0, hg0, g1, ht, zY, zx]
    · have IH := IH rfl
      refine zz Tryz.func111 rfl rfl ?_
      simp (disch := ((try simp only [LL]); omega)) only [↓GO, ↓DRW, GA, ren, zB, zd, refs, zb, cst, zl, zH, z7, E.load, E.store, zG, isC, bin, zI, zJ, una, z8, za, zh, zK, blt, fnV, asArg, ze, zn, zo, zj, zi, zg, zk, zr, z6, zD, zF, E.mkS, zc, unN, zM, zm, zy, zC, zf, zN, zq, GS, simprocAttr, GZ, c0, c1, h0, hg0, g1, ht, IH, zY, zx, Int.reduceAdd]
theorem l_sg2 (x y lo : Str) : EV Tryz.prog pol (.loop 111 122 0 [.ptr 0 0 0, .t (.list 1 [[.str x], [.str y]]), .ptr 1 0 0, .t (.int .i64 1)] [.vs 2 [[.t (.str []), .t (.str [])]], .vs 2 [[.t (.str lo), .t (.str [])]]])
    = some (cond (ltW y) (.loop (.exit 0) [.ptr 0 0 0, .bad, .t (.list 1 [[.str x], [.str y]]), .ptr 1 0 0] [.vs 2 [[.t (.str []), .t (.str [])]], .vs 2 [[.t (.str lo), .t (.str (y.drop 1))]]])
        (.loop .ret [.ptr 0 0 0, .t (.bool false), .t (.list 1 [[.str x], [.str y]]), .ptr 1 0 0] [.vs 2 [[.t (.str []), .t (.str [])]], .vs 2 [[.t (.str lo), .t (.str [])]]])) := by
  have E1 : ∀ lo' hi' : Str, EV Tryz.prog pol (.loop 111 122 0 [.ptr 0 0 0, .t (.list 1 [[.str x], [.str y]]), .ptr 1 0 0, .t (.int .i64 2)] [.vs 2 [[.t (.str []), .t (.str [])]], .vs 2 [[.t (.str lo'), .t (.str hi')]]]) = some (.loop (.exit 0) [.ptr 0 0 0, .bad, .t (.list 1 [[.str x], [.str y]]), .ptr 1 0 0] [.vs 2 [[.t (.str []), .t (.str [])]], .vs 2 [[.t (.str lo'), .t (.str hi')]]]) := fun lo' hi' => by
    refine zz Tryz.func111 rfl rfl ?_
    simp (disch := ((try simp only [LL]); omega)) only [↓GO, ↓DRW, GA, ren, zB, zd, refs, zb, cst, zl, zH, z7, E.load, E.store, zG, isC, bin, zI, zJ, una, z8, za, zh, zK, blt, fnV, asArg, ze, zn, zo, zj, zi, zg, zk, zr, z6, zD, zF, E.mkS, zc, unN, zM, zm, zy, zC, zf, zN, zq, GS, simprocAttr, GZ, zY]
  rcases qX y with ⟨hl, g3⟩ | ⟨a, r, hx, g3, hl⟩
  · rw [hl]
    simp only [cond_false]
    refine zz Tryz.func111 rfl rfl ?_
    simp (disch := ((try simp only [LL]); omega)) only [↓GO, ↓DRW, GA, ren, zB, zd, refs, zb, cst, zl, zH, z7, E.load, E.store, zG, isC, bin, zI, zJ, una, z8, za, zh, zK, blt, fnV, asArg, ze, zn, zo, zj, zi, zg, zk, zr, z6, zD, zF, E.mkS, zc, unN, zM, zm, zy, zC, zf, zN, zq, GS, simprocAttr, GZ, g3, zY, Int.reduceAdd, Int.reduceSub, zx]
  · rw [hl]
    have h0 : y[0]? = some a := by rw [hx]; rfl
    have h60 := mQ a 60
    rw [show (((60 : UInt8).toNat : Nat) : Int) = 60 from rfl] at h60
    have hxl : 1 ≤ y.length := by rw [hx]; simp
    clear hx hl
    cases hh : (a == 60) <;> rw [hh] at h60 <;> simp only [cond_true, cond_false]
    all_goals
      refine zz Tryz.func111 rfl rfl ?_
      simp (disch := ((try simp only [LL]); omega)) only [↓GO, ↓DRW, GA, ren, zB, zd, refs, zb, cst, zl, zH, z7, E.load, E.store, zG, isC, bin, zI, zJ, una, z8, za, zh, zK, blt, fnV, asArg, ze, zn, zo, zj, zi, zg, zk, zr, z6, zD, zF, E.mkS, zc, unN, zM, zm, zy, zC, zf, zN, zq, GS, simprocAttr, GZ, g3, h0, h60, E1, zY, Int.reduceAdd, Int.reduceSub, zx]
theorem l_sg3 (x y lo : Str) (ws : List (List T)) (n : Nat) (hn : n = ws.length) (h2 : 3 ≤ n) (hl : n ≤ 4194304) : EV Tryz.prog pol (.loop 111 122 0 [.ptr 0 0 0, .t (.list 1 ws), .ptr 1 0 0, .t (.int .i64 1)] [.vs 2 [[.t (.str []), .t (.str [])]], .vs 2 [[.t (.str lo), .t (.str [])]]])
    = some (.loop .ret [.ptr 0 0 0, .t (.bool false), .t (.list 1 ws), .ptr 1 0 0] [.vs 2 [[.t (.str []), .t (.str [])]], .vs 2 [[.t (.str lo), .t (.str [])]]]) := by
  have c0 : decide ((1 : Int) < (ws.length : Int)) = true := decide_eq_true (by omega)
  have c1 : ((1 : Int) == (ws.length : Int) - 1) = false := by rw [beq_eq_false_iff_ne]; omega
  subst hn
  refine zz Tryz.func111 rfl rfl ?_
  simp (disch := ((try simp only [LL]); omega)) only [↓GO, ↓DRW, GA, ren, zB, zd, refs, zb, cst, zl, zH, z7, E.load, E.store, zG, isC, bin, zI, zJ, una, z8, za, zh, zK, blt, fnV, asArg, ze, zn, zo, zj, zi, zg, zk, zr, z6, zD, zF, E.mkS, zc, unN, zM, zm, zy, zC, zf, zN, zq, GS, simprocAttr, GZ, c0, c1, zY, zx]
theorem Xq (s : Str) (hl : s.length ≤ 1048600) : zE (EV Tryz.prog pol) 111 [.t (.str s)] = some (bT (u6 s)) := by
  have h1 := UB s (by omega)
  have hbk := xL 32 s
  unfold u6
  match hp : yi 32 s with
  | [] => exact absurd hp (yU 32 s)
  | [x] =>
    rw [hp] at h1 hbk
    simp only [yk, List.length_cons, List.length_nil] at hbk
    have L := l_sg1 x
    have hd2 : (x.drop 2).length ≤ x.length := by rw [List.length_drop]; omega
    have hd1 : (x.drop 1).length ≤ x.length := by rw [List.length_drop]; omega
    have r1 := jR [(x.drop 2, [])] (by simp) (by simp; omega)
    have r2 := jR [([], x.drop 1)] (by simp) (by simp; omega)
    rw [WY] at r1 r2
    simp only [bdT, List.map_cons, List.map_nil, xj, yf] at r1 r2 h1 ⊢
    generalize (isE (x.drop 2) && isE []) = k1 at *
    generalize (isE [] && isE (x.drop 1)) = k2 at *
    cases hg : geW x <;> rw [hg] at L <;> simp only [cond_true, cond_false] at L ⊢
    · cases hq : ltW x <;> rw [hq] at L <;> simp only [cond_true, cond_false] at L ⊢
      · simp only [bT]
        apply zu
        refine zw rfl Tryz.func111 rfl (by kernel_rfl) ?_
        unfold Tryz.f111
        simp (disch := ((try simp only [LL]); omega)) only [↓GO, ↓DRW, GA, ren, zB, zd, refs, zb, cst, zl, zH, z7, E.load, E.store, zG, isC, bin, zI, zJ, una, z8, za, zh, zK, blt, fnV, asArg, ze, zn, zo, zj, zi, zg, zk, zr, z6, zD, zF, E.mkS, zc, unN, zM, zm, zy, zC, zf, zN, zq, GS, simprocAttr, GZ, h1, L, zY]
      · cases k2 <;> simp only [cond_true, cond_false, bT]
        all_goals
          apply zu
          refine zw rfl Tryz.func111 rfl (by kernel_rfl) ?_
          unfold Tryz.f111
          simp (disch := ((try simp only [LL]); omega)) only [↓GO, ↓DRW, GA, ren, zB, zd, refs, zb, cst, zl, zH, z7, E.load, E.store, zG, isC, bin, zI, zJ, una, z8, za, zh, zK, blt, fnV, asArg, ze, zn, zo, zj, zi, zg, zk, zr, z6, zD, zF, E.mkS, zc, unN, zM, zm, zy, zC, zf, zN, zq, GS, simprocAttr, GZ, h1, L, r2, zY]
    · cases k1 <;> simp only [cond_true, cond_false, bT]
      all_goals
        apply zu
        refine zw rfl Tryz.func111 rfl (by kernel_rfl) ?_
        unfold Tryz.f111
        simp (disch := ((try simp only [LL]); omega)) only [↓GO, ↓DRW, GA, ren, zB, zd, refs, zb, cst, zl, zH, z7, E.load, E.store, zG, isC, bin, zI, zJ, una, z8, za, zh, zK, blt, fnV, asArg, ze, zn, zo, zj, zi, zg, zk, zr, z6, zD, zF, E.mkS, zc, unN, zM, zm, zy, zC, zf, zN, zq, GS, simprocAttr, GZ, h1, L, r1, zY]
  | [x, y] =>
    rw [hp] at h1 hbk
    simp only [yk, List.length_cons, List.length_nil] at hbk
    have L2 := l_sg2 x y (x.drop 2)
    have L := Th x [[.str x], [.str y]] 2 rfl (by omega) (by omega) rfl _ (fun _ => L2)
    have hd2 : (x.drop 2).length ≤ x.length := by rw [List.length_drop]; omega
    have hd1 : (y.drop 1).length ≤ y.length := by rw [List.length_drop]; omega
    have r1 := jR [(x.drop 2, y.drop 1)] (by simp) (by simp; omega)
    rw [WY] at r1
    simp only [bdT, List.map_cons, List.map_nil, xj, yf] at r1 h1 ⊢
    generalize (isE (x.drop 2) && isE (y.drop 1)) = k1 at *
    clear L2
    cases hg : geW x <;> rw [hg] at L <;> simp only [cond_true, cond_false] at L ⊢
    · simp only [bT]
      apply zu
      refine zw rfl Tryz.func111 rfl (by kernel_rfl) ?_
      unfold Tryz.f111
      simp (disch := ((try simp only [LL]); omega)) only [↓GO, ↓DRW, GA, ren, zB, zd, refs, zb, cst, zl, zH, z7, E.load, E.store, zG, isC, bin, zI, zJ, una, z8, za, zh, zK, blt, fnV, asArg, ze, zn, zo, zj, zi, zg, zk, zr, z6, zD, zF, E.mkS, zc, unN, zM, zm, zy, zC, zf, zN, zq, GS, simprocAttr, GZ, h1, L, zY]
    · cases hq : ltW y <;> rw [hq] at L <;> simp only [cond_true, cond_false] at L ⊢
      · simp only [bT]
        apply zu
        refine zw rfl Tryz.func111 rfl (by kernel_rfl) ?_
        unfold Tryz.f111
        simp (disch := ((try simp only [LL]); omega)) only [↓GO, ↓DRW, GA, ren, zB, zd, refs, zb, cst, zl, zH, z7, E.load, E.store, zG, isC, bin, zI, zJ, una, z8, za, zh, zK, blt, fnV, asArg, ze, zn, zo, zj, zi, zg, zk, zr, z6, zD, zF, E.mkS, zc, unN, zM, zm, zy, zC, zf, zN, zq, GS, simprocAttr, GZ, h1, L, zY]
      · cases k1 <;> simp only [cond_true, cond_false, bT]
        all_goals
          apply zu
          refine zw rfl Tryz.func111 rfl (by kernel_rfl) ?_
          unfold Tryz.f111
          simp (disch := ((try simp only [LL]); omega)) only [↓GO, ↓DRW, GA, ren, zB, zd, refs, zb, cst, zl, zH, z7, E.load, E.store, zG, isC, bin, zI, zJ, una, z8, za, zh, zK, blt, fnV, asArg, ze, zn, zo, zj, zi, zg, zk, zr, z6, zD, zF, E.mkS, zc, unN, zM, zm, zy, zC, zf, zN, zq, GS, simprocAttr, GZ, h1, L, r1, zY]
  | x :: y :: z :: r =>
    rw [hp] at h1 hbk
    have hn : (y6 (x :: y :: z :: r)).length = r.length + 3 := by rw [zP]; simp
    have hb3 : r.length + 3 ≤ 4194304 := by simp only [List.length_cons] at hbk; omega
    have L := Th x (y6 (x :: y :: z :: r)) _ rfl (by omega) (by omega) rfl _ (fun _ => l_sg3 x y (x.drop 2) (y6 (x :: y :: z :: r)) _ rfl (by omega) (by omega))
    simp only [bT]
    generalize y6 (x :: y :: z :: r) = ws at *
    cases hg : geW x <;> rw [hg] at L <;> simp only [cond_true, cond_false] at L
    all_goals
      apply zu
      refine zw rfl Tryz.func111 rfl (by kernel_rfl) ?_
      unfold Tryz.f111
      simp (disch := ((try simp only [LL]); omega)) only [↓GO, ↓DRW, GA, ren, zB, zd, refs, zb, cst, zl, zH, z7, E.load, E.store, zG, isC, bin, zI, zJ, una, z8, za, zh, zK, blt, fnV, asArg, ze, zn, zo, zj, zi, zg, zk, zr, z6, zD, zF, E.mkS, zc, unN, zM, zm, zy, zC, zf, zN, zq, GS, simprocAttr, GZ, h1, L, zY]
end Go.Proofs.YtmcephnfcciloaaGreatDoor
/- Ranges, by the reference: the whole. Conditions: those of each lemma. -/
namespace Go.Proofs.YtmcephnfcciloaaGreatDoor
open E
set_option linter.unusedSimpArgs false
set_option linter.unusedVariables false
set_option maxRecDepth 100000
set_option maxHeartbeats 4000000 in
theorem UH (s : Str) (hl : s.length ≤ 1048576) : zE (EV Tryz.prog pol) 86 [.t (.str s)] = some (bT (xM s)) := by
  have hs := Xq s (by omega)
  have ha := eo s (by omega)
  rw [Sf] at ha
  have hsh := Xr s (by omega)
  have hd1 : (s.drop 1).length ≤ s.length := by rw [List.length_drop]; omega
  have hrv := oz (s.drop 1) (by omega)
  obtain ⟨m1, m2, m3, m4, m5, m6, m7⟩ := yW (s.drop 1) (by omega)
  have hf1 := Vs (s.drop 1) (zA (s.drop 1)).1 1 m1 (by omega) ⟨m3, m2⟩ ⟨m5, m4⟩ ⟨m7, m6⟩
  have hf2 := Vs (s.drop 1) (zA (s.drop 1)).1 (vO (zA (s.drop 1)).1) m1 (Zv _) ⟨m3, m2⟩ ⟨m5, m4⟩ ⟨m7, m6⟩
  have hc := XC (zA (s.drop 1)).1
  unfold rvT at hrv
  rw [show (zA (s.drop 1)).2 = isV (s.drop 1) from rfl] at hrv
  unfold xM
  generalize u6 s = sg at *
  generalize x6 s = ex at *
  generalize wO s = sh at *
  generalize isV (s.drop 1) = iv at *
  generalize vO (zA (s.drop 1)).1 = cr at *
  generalize hfd : mR (zA (s.drop 1)).1 (s.drop 1) 1 = f1 at *
  generalize hfc : mR (zA (s.drop 1)).1 (s.drop 1) cr = f2 at *
  generalize (zA (s.drop 1)).1 = v at *
  simp only [Ver.enc, List.map_cons, List.map_nil] at hrv hf1 hf2 hc
  cases h42 : (s == [42]) with
  | true =>
    simp only [cond_true, bT]
    apply zu
    refine zw rfl Tryz.func86 rfl (by kernel_rfl) ?_
    unfold Tryz.f86
    simp (disch := ((try simp only [LL]); omega)) only [↓GO, ↓DRW, GA, ren, zB, zd, refs, zb, cst, zl, zH, z7, E.load, E.store, zG, isC, bin, zI, zJ, una, z8, za, zh, zK, blt, fnV, asArg, ze, zn, zo, zj, zi, zg, zk, zr, z6, zD, zF, E.mkS, zc, unN, zM, zm, zy, zC, zf, zN, zq, GS, simprocAttr, GZ, h42]
  | false =>
    simp only [cond_false]
    match s with
    | [] =>
      have z1 : decide ((([] : Str).length : Int) > 1) = false := rfl
      have z0 : decide ((([] : Str).length : Int) > 0) = false := rfl
      rw [z1, z0]
      simp only [Bool.false_and, cond_false]
      cases ex <;> cases sh <;> simp only [bT] at ha hsh ⊢
      all_goals
        apply zu
        refine zw rfl Tryz.func86 rfl (by kernel_rfl) ?_
        unfold Tryz.f86
        simp (disch := ((try simp only [LL]); omega)) only [↓GO, ↓DRW, GA, ren, zB, zd, refs, zb, cst, zl, zH, z7, E.load, E.store, zG, isC, bin, zI, zJ, una, z8, za, zh, zK, blt, fnV, asArg, ze, zn, zo, zj, zi, zg, zk, zr, z6, zD, zF, E.mkS, zc, unN, zM, zm, zy, zC, zf, zN, zq, GS, simprocAttr, GZ, h42, z1, z0, ha, hsh]
    | x :: r =>
      have z0 : decide (((x :: r).length : Int) > 0) = true := by apply decide_eq_true; simp only [List.length_cons]; omega
      have h0 : (x :: r)[0]? = some x := rfl
      have h94 := mQ x 94
      have h126 := mQ x 126
      have h62 := mQ x 62
      have h60 := mQ x 60
      rw [show (((94 : UInt8).toNat : Nat) : Int) = 94 from rfl] at h94
      rw [show (((126 : UInt8).toNat : Nat) : Int) = 126 from rfl] at h126
      rw [show (((62 : UInt8).toNat : Nat) : Int) = 62 from rfl] at h62
      rw [show (((60 : UInt8).toNat : Nat) : Int) = 60 from rfl] at h60
      have hx1 : 1 ≤ (x :: r).length := by simp
      simp only [hdB]
      rw [z0]
      generalize x :: r = xs at *
      cases z1 : decide ((xs.length : Int) > 1)
      · simp only [Bool.true_and, Bool.false_and, Bool.or_true, Bool.or_false, Bool.true_or, Bool.false_or, cond_true, cond_false, hfc, hfd]
        cases e62 : (x == 62) <;> rw [e62] at h62
        · cases e60 : (x == 60) <;> rw [e60] at h60 <;> simp only [Bool.true_and, Bool.false_and, Bool.or_true, Bool.or_false, Bool.true_or, Bool.false_or, cond_true, cond_false, hfc, hfd]
          · cases ex <;> cases sh <;> simp only [bT] at ha hsh ⊢
            all_goals
              apply zu
              refine zw rfl Tryz.func86 rfl (by kernel_rfl) ?_
              unfold Tryz.f86
              simp (disch := ((try simp only [LL]); omega)) only [↓GO, ↓DRW, GA, ren, zB, zd, refs, zb, cst, zl, zH, z7, E.load, E.store, zG, isC, bin, zI, zJ, una, z8, za, zh, zK, blt, fnV, asArg, ze, zn, zo, zj, zi, zg, zk, zr, z6, zD, zF, E.mkS, zc, unN, zM, zm, zy, zC, zf, zN, zq, GS, simprocAttr, GZ, h42, z1, z0, h0, h62, h60, ha, hsh, zY]
          · cases sg <;> simp only [bT] at hs ⊢
            all_goals
              apply zu
              refine zw rfl Tryz.func86 rfl (by kernel_rfl) ?_
              unfold Tryz.f86
              simp (disch := ((try simp only [LL]); omega)) only [↓GO, ↓DRW, GA, ren, zB, zd, refs, zb, cst, zl, zH, z7, E.load, E.store, zG, isC, bin, zI, zJ, una, z8, za, zh, zK, blt, fnV, asArg, ze, zn, zo, zj, zi, zg, zk, zr, z6, zD, zF, E.mkS, zc, unN, zM, zm, zy, zC, zf, zN, zq, GS, simprocAttr, GZ, h42, z1, z0, h0, h62, h60, hs, zY]
        · simp only [Bool.true_and, Bool.false_and, Bool.or_true, Bool.or_false, Bool.true_or, Bool.false_or, cond_true, cond_false, hfc, hfd]
          cases sg <;> simp only [bT] at hs ⊢
          all_goals
            apply zu
            refine zw rfl Tryz.func86 rfl (by kernel_rfl) ?_
            unfold Tryz.f86
            simp (disch := ((try simp only [LL]); omega)) only [↓GO, ↓DRW, GA, ren, zB, zd, refs, zb, cst, zl, zH, z7, E.load, E.store, zG, isC, bin, zI, zJ, una, z8, za, zh, zK, blt, fnV, asArg, ze, zn, zo, zj, zi, zg, zk, zr, z6, zD, zF, E.mkS, zc, unN, zM, zm, zy, zC, zf, zN, zq, GS, simprocAttr, GZ, h42, z1, z0, h0, h62, hs, zY]
      · cases e94 : (x == 94) <;> rw [e94] at h94
        · cases e126 : (x == 126) <;> rw [e126] at h126 <;> simp only [Bool.true_and, Bool.false_and, Bool.or_true, Bool.or_false, Bool.true_or, Bool.false_or, cond_true, cond_false, hfc, hfd]
          · cases e62 : (x == 62) <;> rw [e62] at h62
            · cases e60 : (x == 60) <;> rw [e60] at h60 <;> simp only [Bool.true_and, Bool.false_and, Bool.or_true, Bool.or_false, Bool.true_or, Bool.false_or, cond_true, cond_false, hfc, hfd]
              · cases ex <;> cases sh <;> simp only [bT] at ha hsh ⊢
                all_goals
                  apply zu
                  refine zw rfl Tryz.func86 rfl (by kernel_rfl) ?_
                  unfold Tryz.f86
                  simp (disch := ((try simp only [LL]); omega)) only [↓GO, ↓DRW, GA, ren, zB, zd, refs, zb, cst, zl, zH, z7, E.load, E.store, zG, isC, bin, zI, zJ, una, z8, za, zh, zK, blt, fnV, asArg, ze, zn, zo, zj, zi, zg, zk, zr, z6, zD, zF, E.mkS, zc, unN, zM, zm, zy, zC, zf, zN, zq, GS, simprocAttr, GZ, h42, z1, z0, h0, h94, h126, h62, h60, ha, hsh, zY]
              · cases sg <;> simp only [bT] at hs ⊢
                all_goals
                  apply zu
                  refine zw rfl Tryz.func86 rfl (by kernel_rfl) ?_
                  unfold Tryz.f86
                  simp (disch := ((try simp only [LL]); omega)) only [↓GO, ↓DRW, GA, ren, zB, zd, refs, zb, cst, zl, zH, z7, E.load, E.store, zG, isC, bin, zI, zJ, una, z8, za, zh, zK, blt, fnV, asArg, ze, zn, zo, zj, zi, zg, zk, zr, z6, zD, zF, E.mkS, zc, unN, zM, zm, zy, zC, zf, zN, zq, GS, simprocAttr, GZ, h42, z1, z0, h0, h94, h126, h62, h60, hs, zY]
            · simp only [Bool.true_and, Bool.false_and, Bool.or_true, Bool.or_false, Bool.true_or, Bool.false_or, cond_true, cond_false, hfc, hfd]
              cases sg <;> simp only [bT] at hs ⊢
              all_goals
                apply zu
                refine zw rfl Tryz.func86 rfl (by kernel_rfl) ?_
                unfold Tryz.f86
                simp (disch := ((try simp only [LL]); omega)) only [↓GO, ↓DRW, GA, ren, zB, zd, refs, zb, cst, zl, zH, z7, E.load, E.store, zG, isC, bin, zI, zJ, una, z8, za, zh, zK, blt, fnV, asArg, ze, zn, zo, zj, zi, zg, zk, zr, z6, zD, zF, E.mkS, zc, unN, zM, zm, zy, zC, zf, zN, zq, GS, simprocAttr, GZ, h42, z1, z0, h0, h94, h126, h62, hs, zY]
          · cases iv <;> simp only [Bool.not_true, Bool.not_false, cond_true, cond_false, bT] at hrv ⊢
            · apply zu
              refine zw rfl Tryz.func86 rfl (by kernel_rfl) ?_
              unfold Tryz.f86
              simp (disch := ((try simp only [LL]); omega)) only [↓GO, ↓DRW, GA, ren, zB, zd, refs, zb, cst, zl, zH, z7, E.load, E.store, zG, isC, bin, zI, zJ, una, z8, za, zh, zK, blt, fnV, asArg, ze, zn, zo, zj, zi, zg, zk, zr, z6, zD, zF, E.mkS, zc, unN, zM, zm, zy, zC, zf, zN, zq, GS, simprocAttr, GZ, h42, z1, z0, h0, h94, h126, hrv, hx1, zY]
            · cases f1 <;> simp only [bT] at hf1 ⊢
              all_goals
                apply zu
                refine zw rfl Tryz.func86 rfl (by kernel_rfl) ?_
                unfold Tryz.f86
                simp (disch := ((try simp only [LL]); omega)) only [↓GO, ↓DRW, GA, ren, zB, zd, refs, zb, cst, zl, zH, z7, E.load, E.store, zG, isC, bin, zI, zJ, una, z8, za, zh, zK, blt, fnV, asArg, ze, zn, zo, zj, zi, zg, zk, zr, z6, zD, zF, E.mkS, zc, unN, zM, zm, zy, zC, zf, zN, zq, GS, simprocAttr, GZ, h42, z1, z0, h0, h94, h126, hrv, hf1, hx1, zY]
                refine yT (by kernel_rfl) ?_
                rfl
        · cases e126 : (x == 126) <;> rw [e126] at h126 <;> simp only [Bool.true_and, Bool.false_and, Bool.or_true, Bool.or_false, Bool.true_or, Bool.false_or, cond_true, cond_false, hfc, hfd] <;> cases iv <;> simp only [Bool.not_true, Bool.not_false, cond_true, cond_false, bT] at hrv ⊢
          · apply zu
            refine zw rfl Tryz.func86 rfl (by kernel_rfl) ?_
            unfold Tryz.f86
            simp (disch := ((try simp only [LL]); omega)) only [↓GO, ↓DRW, GA, ren, zB, zd, refs, zb, cst, zl, zH, z7, E.load, E.store, zG, isC, bin, zI, zJ, una, z8, za, zh, zK, blt, fnV, asArg, ze, zn, zo, zj, zi, zg, zk, zr, z6, zD, zF, E.mkS, zc, unN, zM, zm, zy, zC, zf, zN, zq, GS, simprocAttr, GZ, h42, z1, z0, h0, h94, h126, hrv, hx1, zY]
          · cases f2 <;> simp only [bT] at hf2 ⊢
            all_goals
              apply zu
              refine zw rfl Tryz.func86 rfl (by kernel_rfl) ?_
              unfold Tryz.f86
              simp (disch := ((try simp only [LL]); omega)) only [↓GO, ↓DRW, GA, ren, zB, zd, refs, zb, cst, zl, zH, z7, E.load, E.store, zG, isC, bin, zI, zJ, una, z8, za, zh, zK, blt, fnV, asArg, ze, zn, zo, zj, zi, zg, zk, zr, z6, zD, zF, E.mkS, zc, unN, zM, zm, zy, zC, zf, zN, zq, GS, simprocAttr, GZ, h42, z1, z0, h0, h94, h126, hrv, hc, hf2, hx1, zY]
              refine yT (by kernel_rfl) ?_
              rfl
          · apply zu
            refine zw rfl Tryz.func86 rfl (by kernel_rfl) ?_
            unfold Tryz.f86
            simp (disch := ((try simp only [LL]); omega)) only [↓GO, ↓DRW, GA, ren, zB, zd, refs, zb, cst, zl, zH, z7, E.load, E.store, zG, isC, bin, zI, zJ, una, z8, za, zh, zK, blt, fnV, asArg, ze, zn, zo, zj, zi, zg, zk, zr, z6, zD, zF, E.mkS, zc, unN, zM, zm, zy, zC, zf, zN, zq, GS, simprocAttr, GZ, h42, z1, z0, h0, h94, h126, hrv, hx1, zY]
          · cases f1 <;> simp only [bT] at hf1 ⊢
            all_goals
              apply zu
              refine zw rfl Tryz.func86 rfl (by kernel_rfl) ?_
              unfold Tryz.f86
              simp (disch := ((try simp only [LL]); omega)) only [↓GO, ↓DRW, GA, ren, zB, zd, refs, zb, cst, zl, zH, z7, E.load, E.store, zG, isC, bin, zI, zJ, una, z8, za, zh, zK, blt, fnV, asArg, ze, zn, zo, zj, zi, zg, zk, zr, z6, zD, zF, E.mkS, zc, unN, zM, zm, zy, zC, zf, zN, zq, GS, simprocAttr, GZ, h42, z1, z0, h0, h94, h126, hrv, hc, hf1, hx1, zY]
              refine yT (by kernel_rfl) ?_
              rfl
end Go.Proofs.YtmcephnfcciloaaGreatDoor
/- Ranges, by the reference: parts cut, all; notices. Conditions: those of each lemma. -/
namespace Go.Proofs.YtmcephnfcciloaaGreatDoor
open E
set_option linter.unusedSimpArgs false
set_option linter.unusedVariables false
set_option maxRecDepth 100000
def glue (c : Str) : List Str → List Str
  | p :: r => (c ++ p) :: r
  | [] => []
theorem fC : ∀ l : List Str, glue [] l = l
  | [] => rfl
  | p :: r => rfl
theorem mB : ∀ (k : Nat) (s : Str), s.length < 4 → k ≤ s.length → yV k s = [s.drop k]
  | k, [], _, h => by
    have : k = 0 := by simpa using h
    subst this; rfl
  | 0, x :: r, h, _ => by
    have hp : wI.isPrefixOf (x :: r) = false := by
      cases h2 : wI.isPrefixOf (x :: r) with
      | false => rfl
      | true => have := Tc h2; omega
    have ih := mB 0 r (by simp only [List.length_cons] at h; omega) (by omega)
    rw [uj x r r [] hp ih]; rfl
  | k + 1, x :: r, h, hk => by
    rw [yV, mB k r (by simp only [List.length_cons] at h; omega) (by simpa using hk)]; rfl
theorem eV (s : Str) (h : 4 ≤ s.length) : wI.isPrefixOf s = (s.take 4 == wI) := by
  match s, h with
  | a :: b :: c :: d :: r, _ =>
    unfold wI
    rw [Bool.eq_iff_iff]
    simp [List.isPrefixOf]
    constructor
    · rintro ⟨h1, h2, h3, h4⟩; exact ⟨h1.symm, h2.symm, h3.symm, h4.symm⟩
    · rintro ⟨h1, h2, h3, h4⟩; exact ⟨h1.symm, h2.symm, h3.symm, h4.symm⟩
theorem qm (s : Str) (hl : s.length ≤ 4194304) : ∀ (n f m : Nat) (out : List Str) (cap : Option Nat), s.length - m = n → f ≤ s.length → m ≤ s.length → out.length ≤ m →
    ∃ (out' : List Str) (fr : Nat) (cap' : Option Nat), out'.length ≤ s.length ∧ fr ≤ s.length ∧ out' ++ [s.drop fr] = out ++ glue ((s.drop f).take (m - f)) (yV (f - m) (s.drop m)) ∧
      EV Tryz.prog pol (.loop 85 122 0 [.t (.str s), .sl 0 0 out.length cap, .t (.int .i64 (f : Int)), .t (.int .i64 (m : Int))] [.ts 1 (y6 out)]) = some (.loop (.exit 0) [.t (.str s), .sl 0 0 out'.length cap', .t (.int .i64 (fr : Int))] [.ts 1 (y6 out')])
  | n, f, m, out, cap, hn, hf, hm, ho => by
    by_cases hc : m + 4 ≤ s.length
    · have c : decide ((m : Int) + 4 ≤ (s.length : Int)) = true := decide_eq_true (by omega)
      have e4 : ((m : Int) + 4) = ((m + 4 : Nat) : Int) := by omega
      have e1 : ((m : Int) + 1) = ((m + 1 : Nat) : Int) := by omega
      have hdl : (s.drop m).length = s.length - m := List.length_drop
      obtain ⟨x, r, hx⟩ : ∃ x r, s.drop m = x :: r := by
        cases h : s.drop m with
        | nil => rw [h] at hdl; simp at hdl; omega
        | cons x r => exact ⟨x, r, rfl⟩
      have hr : s.drop (m + 1) = r := by rw [← List.drop_drop, hx]; rfl
      by_cases hfm : f ≤ m
      · have g : decide ((m : Int) ≥ (f : Int)) = true := decide_eq_true (by omega)
        have hk : f - m = 0 := by omega
        have ht := eV (s.drop m) (by omega)
        have hN : ((m : Int) + 4).toNat - m = 4 := by omega
        have hN2 : ((m : Int) + 4).toNat = m + 4 := by omega
        have hol : out.length ≤ 4194304 := by omega
        cases hp : wI.isPrefixOf (s.drop m) with
        | true =>
          obtain ⟨out', fr, cap', q1, q2, q3, q4⟩ := qm s hl (n - 1) (m + 4) (m + 1) (out ++ [(s.drop f).take (m - f)]) none (by omega) (by omega) (by omega) (by simp; omega)
          refine ⟨out', fr, cap', q1, q2, ?_, ?_⟩
          · rw [q3, hr, show m + 4 - (m + 1) = 3 by omega, show m + 1 - (m + 4) = 0 by omega, hk, hx, mA x r (by rw [← hx]; exact hp)]
            rw [show glue ((s.drop f).take (m - f)) ([] :: yV 3 r) = ((s.drop f).take (m - f) ++ []) :: yV 3 r from rfl, List.take_zero, fC, List.append_nil, List.append_assoc]; rfl
          · rw [hp] at ht
            rw [uw, xj, yf, List.length_append, List.length_cons, List.length_nil, Nat.zero_add, ← e4, ← e1] at q4
            have ht' : ((s.drop m).take 4 == [32, 124, 124, 32]) = true := ht.symm
            clear hx hr q3
            refine zz Tryz.func85 rfl rfl ?_
            simp (disch := ((try simp only [LL]); omega)) only [↓GO, ↓DRW, GA, ren, zB, zd, refs, zb, cst, zl, zH, z7, E.load, E.store, zG, isC, bin, zI, zJ, una, z8, za, zh, zK, blt, fnV, asArg, ze, zn, zo, zj, zi, zg, zk, zr, z6, zD, zF, E.mkS, zc, unN, zM, zm, zy, zC, zf, zN, zq, GS, simprocAttr, GZ, c, g, hN, ht', zx, q4, zP, wh]
        | false =>
          obtain ⟨out', fr, cap', q1, q2, q3, q4⟩ := qm s hl (n - 1) f (m + 1) out cap (by omega) (by omega) (by omega) (by omega)
          refine ⟨out', fr, cap', q1, q2, ?_, ?_⟩
          · rw [q3, hr, hk, show f - (m + 1) = 0 by omega, hx]
            have htk : (s.drop f).take (m + 1 - f) = (s.drop f).take (m - f) ++ [x] := by
              have hdd : (s.drop f).drop (m - f) = x :: r := by rw [List.drop_drop, show f + (m - f) = m by omega]; exact hx
              rw [show m + 1 - f = (m - f) + 1 by omega, List.take_add, hdd]; rfl
            rw [htk]
            cases h0 : yV 0 r with
            | nil => exact absurd h0 (qF 0 r)
            | cons p q => rw [uj x r p q (by rw [← hx]; exact hp) h0]; simp [glue]
          · rw [hp] at ht
            rw [← e1] at q4
            have ht' : ((s.drop m).take 4 == [32, 124, 124, 32]) = false := ht.symm
            clear hx hr q3
            refine zz Tryz.func85 rfl rfl ?_
            simp (disch := ((try simp only [LL]); omega)) only [↓GO, ↓DRW, GA, ren, zB, zd, refs, zb, cst, zl, zH, z7, E.load, E.store, zG, isC, bin, zI, zJ, una, z8, za, zh, zK, blt, fnV, asArg, ze, zn, zo, zj, zi, zg, zk, zr, z6, zD, zF, E.mkS, zc, unN, zM, zm, zy, zC, zf, zN, zq, GS, simprocAttr, GZ, c, g, hN, ht', zx, q4, zP, wh]
      · have g : decide ((m : Int) ≥ (f : Int)) = false := decide_eq_false (by omega)
        obtain ⟨out', fr, cap', q1, q2, q3, q4⟩ := qm s hl (n - 1) f (m + 1) out cap (by omega) (by omega) (by omega) (by omega)
        refine ⟨out', fr, cap', q1, q2, ?_, ?_⟩
        · rw [q3, hr, show m + 1 - f = 0 by omega, show m - f = 0 by omega, hx, show f - m = (f - (m + 1)) + 1 by omega, yV]
        · rw [← e1] at q4
          clear hx hr q3
          refine zz Tryz.func85 rfl rfl ?_
          simp (disch := ((try simp only [LL]); omega)) only [↓GO, ↓DRW, GA, ren, zB, zd, refs, zb, cst, zl, zH, z7, E.load, E.store, zG, isC, bin, zI, zJ, una, z8, za, zh, zK, blt, fnV, asArg, ze, zn, zo, zj, zi, zg, zk, zr, z6, zD, zF, E.mkS, zc, unN, zM, zm, zy, zC, zf, zN, zq, GS, simprocAttr, GZ, c, g, zx, q4, zP, wh]
    · have c : decide ((m : Int) + 4 ≤ (s.length : Int)) = false := decide_eq_false (by omega)
      refine ⟨out, f, cap, by omega, hf, ?_, ?_⟩
      · have hdl : (s.drop m).length = s.length - m := List.length_drop
        rw [mB (f - m) (s.drop m) (by omega) (by omega)]
        simp only [glue, List.drop_drop]
        by_cases hfm : f ≤ m
        · rw [show f - m = 0 by omega, Nat.add_zero]
          congr 2
          have := List.take_append_drop (m - f) (s.drop f)
          rw [List.drop_drop, show f + (m - f) = m by omega] at this
          exact this.symm
        · rw [show m - f = 0 by omega, show m + (f - m) = f by omega]; rfl
      · refine zz Tryz.func85 rfl rfl ?_
        simp (disch := ((try simp only [LL]); omega)) only [↓GO, ↓DRW, GA, ren, zB, zd, refs, zb, cst, zl, zH, z7, E.load, E.store, zG, isC, bin, zI, zJ, una, z8, za, zh, zK, blt, fnV, asArg, ze, zn, zo, zj, zi, zg, zk, zr, z6, zD, zF, E.mkS, zc, unN, zM, zm, zy, zC, zf, zN, zq, GS, simprocAttr, GZ, c, zx]
termination_by n f m => s.length - m
decreasing_by all_goals omega
theorem Xt (s : Str) (hl : s.length ≤ 4194304) : zE (EV Tryz.prog pol) 85 [.t (.str s)] = some (.t (.list 1 (y6 (yV 0 s)))) := by
  obtain ⟨out, fr, cap, q1, q2, q3, q4⟩ := qm s hl s.length 0 0 [] (some 0) (by omega) (by omega) (by omega) (by simp)
  simp only [List.nil_append, List.length_nil, Int.natCast_zero, yf, List.drop_zero, Nat.sub_zero, List.take_zero, fC, Nat.sub_self] at q4 q3
  have ho : (y6 out ++ [[.str (List.drop fr s)]]) = y6 (yV 0 s) := by rw [← q3, uw]; rfl
  have ht : List.take (out.length + 1) (y6 (yV 0 s)) = y6 (yV 0 s) := List.take_of_length_le (by rw [zP, ← q3]; simp)
  apply zu
  refine zw rfl Tryz.func85 rfl (by kernel_rfl) ?_
  unfold Tryz.f85
  simp (disch := ((try simp only [LL]); omega)) only [↓GO, ↓DRW, GA, ren, zB, zd, refs, zb, cst, zl, zH, z7, E.load, E.store, zG, isC, bin, zI, zJ, una, z8, za, zh, zK, blt, fnV, asArg, ze, zn, zo, zj, zi, zg, zk, zr, z6, zD, zF, E.mkS, zc, unN, zM, zm, zy, zC, zf, zN, zq, GS, simprocAttr, GZ, q4, zP, wh, ho, ht]
end Go.Proofs.YtmcephnfcciloaaGreatDoor
/- Ranges, by the reference: the whole; notices; the law. Conditions: those of each lemma. -/
namespace Go.Proofs.YtmcephnfcciloaaGreatDoor
open E
set_option linter.unusedSimpArgs false
set_option linter.unusedVariables false
set_option maxRecDepth 100000
/-- how the reference's loop ends -/
def ot (ps : List Str) (acc : List Bd) (cap : Option Nat) (x : List Bd) : Option (List Bd) → xP
  | some bs => .loop (.exit 0) [.bad, .bad, .sl 0 0 (acc.length + bs.length) cap] [.ts 2 (bdT (acc ++ bs))]
  | none => .loop .ret [.sl 0 0 0 (some 0), .t (.bool false), .sl 1 0 x.length cap] [.ts 2 [], .ts 2 (bdT x)]
theorem Ti (ps : List Str) (hl : ps.length ≤ 1048577) (hb : ∀ p ∈ ps, p.length ≤ 1048576) : ∀ (rest pre : List Str) (acc : List Bd) (cap : Option Nat) (m : Nat), ps = pre ++ rest → m = acc.length → acc.length = pre.length →
    ∃ cap' x, EV Tryz.prog pol (.loop 58 250 0 [.sl 0 0 m cap, .t (.list 1 (y6 ps)), .t (.int .i64 (pre.length : Int))] [.ts 2 (bdT acc)]) = some (ot ps acc cap' x (vP rest))
  | [], pre, acc, cap, m, hs, hm, ha => by
    have c : decide ((pre.length : Int) < (ps.length : Int)) = false := by simp [hs]
    refine ⟨cap, [], ?_⟩
    simp only [vP, ot, List.append_nil, List.length_nil, Nat.add_zero]
    subst hm
    refine zz Tryz.func58 rfl rfl ?_
    simp (disch := ((try simp only [LL]); omega)) only [↓GO, ↓DRW, GA, ren, zB, zd, refs, zb, cst, zl, zH, z7, E.load, E.store, zG, isC, bin, zI, zJ, una, z8, za, zh, zK, blt, fnV, asArg, ze, zn, zo, zj, zi, zg, zk, zr, z6, zD, zF, E.mkS, zc, unN, zM, zm, zy, zC, zf, zN, zq, GS, simprocAttr, GZ, c, zP, zY]
  | p :: rest, pre, acc, cap, m, hs, hm, ha => by
    have c : decide ((pre.length : Int) < (ps.length : Int)) = true := by simp [hs]; omega
    have hget : (y6 ps)[pre.length]? = some [.str p] := by rw [hs]; exact wB (fun s : Str => [T.str s]) pre p rest
    have hlen : pre.length + rest.length + 1 ≤ ps.length := by rw [hs]; simp; omega
    have hpb := hb p (by rw [hs]; simp)
    have hB := UH p hpb
    have IHs := fun b => Ti ps hl hb rest (pre ++ [p]) (acc ++ [b]) none (m + 1) (by rw [hs]; simp) (by simp [hm]) (by simp [ha])
    rw [show ((pre ++ [p]).length : Int) = (pre.length : Int) + 1 by simp] at IHs
    have hol : (bdT acc).length = m := by rw [xO, hm]
    have hml : m ≤ 1048578 := by omega
    have hpl : pre.length ≤ 1048577 := by omega
    clear hs hb
    simp only [vP]
    cases hp : xM p with
    | none =>
      rw [hp] at hB
      refine ⟨cap, acc, ?_⟩
      simp only [bT] at hB
      unfold ot
      simp only
      subst hm
      refine zz Tryz.func58 rfl rfl ?_
      simp (disch := ((try simp only [LL]); omega)) only [↓GO, ↓DRW, GA, ren, zB, zd, refs, zb, cst, zl, zH, z7, E.load, E.store, zG, isC, bin, zI, zJ, una, z8, za, zh, zK, blt, fnV, asArg, ze, zn, zo, zj, zi, zg, zk, zr, z6, zD, zF, E.mkS, zc, unN, zM, zm, zy, zC, zf, zN, zq, GS, simprocAttr, GZ, c, hget, hB, zx, hol, zP, zY, wh]
    | some b =>
      obtain ⟨lo, hi⟩ := b
      rw [hp] at hB
      simp only [bT] at hB
      obtain ⟨cap', x, IH⟩ := IHs (lo, hi)
      refine ⟨cap', x, ?_⟩
      rw [aI, show bdT [(lo, hi)] = [[T.str lo, T.str hi]] from rfl] at IH
      simp only
      rw [show ot ps (acc ++ [(lo, hi)]) cap' x (vP rest) = ot ps acc cap' x (match vP rest with | some bs => some ((lo, hi) :: bs) | none => none) by
        cases vP rest with
        | none => rfl
        | some bs => simp only [ot]; rw [List.append_assoc]; simp only [List.length_append, List.length_cons, List.length_nil, List.cons_append, List.nil_append]; rw [show acc.length + (0 + 1) + bs.length = acc.length + (bs.length + 1) by omega]] at IH
      refine zz Tryz.func58 rfl rfl ?_
      simp (disch := ((try simp only [LL]); omega)) only [↓GO, ↓DRW, GA, ren, zB, zd, refs, zb, cst, zl, zH, z7, E.load, E.store, zG, isC, bin, zI, zJ, una, z8, za, zh, zK, blt, fnV, asArg, ze, zn, zo, zj, zi, zg, zk, zr, z6, zD, zF, E.mkS, zc, unN, zM, zm, zy, zC, zf, zN, zq, GS, simprocAttr, GZ, c, hget, hB, zx, hol, zP, IH, zY, wh]
      try (cases vP rest <;> rfl)
theorem Tu (s : Str) (hl : s.length ≤ 1048576) : zE (EV Tryz.prog pol) 58 [.t (.str s)] = some (rrT (wq s)) := by
  unfold wq
  have h1 := Xt s (by omega)
  have hbk := uk 0 s
  have hcn : 1 ≤ (yV 0 s).length := by
    cases hc : yV 0 s with
    | nil => exact absurd hc (qF 0 s)
    | cons p q => simp
  have hmem : ∀ p ∈ yV 0 s, p.length ≤ 1048576 := fun p hp => by have := xX hp; omega
  generalize yV 0 s = ps at *
  obtain ⟨cap, x, L⟩ := Ti ps (by omega) hmem ps [] [] (some 0) 0 rfl rfl rfl
  rw [show bdT [] = [] from rfl] at L
  simp only [List.length_nil, Int.natCast_zero] at L
  have hpl : ps.length ≤ 1048577 := by omega
  cases h200 : decide ((s.length : Int) > 200) with
  | true =>
    simp only [Bool.true_or, cond_true, rrT]
    apply zu
    refine zw rfl Tryz.func58 rfl (by kernel_rfl) ?_
    unfold Tryz.f58
    simp (disch := ((try simp only [LL]); omega)) only [↓GO, ↓DRW, GA, ren, zB, zd, refs, zb, cst, zl, zH, z7, E.load, E.store, zG, isC, bin, zI, zJ, una, z8, za, zh, zK, blt, fnV, asArg, ze, zn, zo, zj, zi, zg, zk, zr, z6, zD, zF, E.mkS, zc, unN, zM, zm, zy, zC, zf, zN, zq, GS, simprocAttr, GZ, h1, h200, zP]
  | false =>
    cases h8 : decide ((ps.length : Int) > 8) with
    | true =>
      simp only [Bool.or_true, cond_true, rrT]
      apply zu
      refine zw rfl Tryz.func58 rfl (by kernel_rfl) ?_
      unfold Tryz.f58
      simp (disch := ((try simp only [LL]); omega)) only [↓GO, ↓DRW, GA, ren, zB, zd, refs, zb, cst, zl, zH, z7, E.load, E.store, zG, isC, bin, zI, zJ, una, z8, za, zh, zK, blt, fnV, asArg, ze, zn, zo, zj, zi, zg, zk, zr, z6, zD, zF, E.mkS, zc, unN, zM, zm, zy, zC, zf, zN, zq, GS, simprocAttr, GZ, h1, h200, h8, zP]
    | false =>
      simp only [Bool.or_false, cond_false]
      cases ha : vP ps with
      | none =>
        rw [ha] at L
        simp only [ot, rrT] at L ⊢
        apply zu
        refine zw rfl Tryz.func58 rfl (by kernel_rfl) ?_
        unfold Tryz.f58
        simp (disch := ((try simp only [LL]); omega)) only [↓GO, ↓DRW, GA, ren, zB, zd, refs, zb, cst, zl, zH, z7, E.load, E.store, zG, isC, bin, zI, zJ, una, z8, za, zh, zK, blt, fnV, asArg, ze, zn, zo, zj, zi, zg, zk, zr, z6, zD, zF, E.mkS, zc, unN, zM, zm, zy, zC, zf, zN, zq, GS, simprocAttr, GZ, h1, h200, h8, L, zP, zY]
      | some l =>
        have hll := (sJ ps l ha).2
        rw [ha] at L
        simp only [ot, List.nil_append, List.length_nil, Nat.zero_add] at L ⊢
        have ht : (bdT l).take l.length = bdT l := List.take_of_length_le (by rw [xO]; omega)
        simp only [rrT]
        apply zu
        refine zw rfl Tryz.func58 rfl (by kernel_rfl) ?_
        unfold Tryz.f58
        simp (disch := ((try simp only [LL]); omega)) only [↓GO, ↓DRW, GA, ren, zB, zd, refs, zb, cst, zl, zH, z7, E.load, E.store, zG, isC, bin, zI, zJ, una, z8, za, zh, zK, blt, fnV, asArg, ze, zn, zo, zj, zi, zg, zk, zr, z6, zD, zF, E.mkS, zc, unN, zM, zm, zy, zC, zf, zN, zq, GS, simprocAttr, GZ, h1, h200, h8, L, zP, ht, xO, zY]
def xI (x : zt) : Bool := (wq x.range).isSome && (vj x.name && (wz x.text && !(x.text == [])))
theorem gl (o : Option (List Bd)) : ∃ t, rrT o = .tup [.t t, .t (.bool o.isSome)] := by
  cases o with
  | none => exact ⟨_, rfl⟩
  | some l => exact ⟨_, rfl⟩
theorem c_noR (x : zt) (hb : x.yh ≤ 1048576) : zE (EV Tryz.prog pol) 59 [.agg (x.enc.map .t)] = some (.t (.bool (xI x))) := by
  obtain ⟨name, range, text⟩ := x
  simp only [zt.yh] at hb
  have h1 := Tu range (by omega)
  have h2 := aB name (by omega)
  have h3 := ej text (by omega)
  obtain ⟨t, ht⟩ := gl (wq range)
  rw [ht] at h1
  unfold xI
  simp only [zt.enc, List.map_cons, List.map_nil]
  generalize (wq range).isSome = b1 at *
  generalize vj name = b2 at *
  generalize wz text = b3 at *
  cases b2 <;> cases b1 <;> cases b3 <;> cases hn : (text == [])
  all_goals
    apply zu
    refine zw rfl Tryz.func59 rfl (by kernel_rfl) ?_
    unfold Tryz.f59
    simp (disch := ((try simp only [LL]); omega)) only [↓GO, ↓DRW, GA, ren, zB, zd, refs, zb, cst, zl, zH, z7, E.load, E.store, zG, isC, bin, zI, zJ, una, z8, za, zh, zK, blt, fnV, asArg, ze, zn, zo, zj, zi, zg, zk, zr, z6, zD, zF, E.mkS, zc, unN, zM, zm, zy, zC, zf, zN, zq, GS, simprocAttr, GZ, h1, h2, h3, hn, bne]
theorem c_noI (x : zt) (hb : x.yh ≤ 1048576) : zE (EV Tryz.prog pol) 65 [.agg (x.enc.map .t)] = some (.t (.bool (xI x))) := by
  obtain ⟨name, range, text⟩ := x
  simp only [zt.yh] at hb
  have h1 := Tv range (by omega)
  rw [nk] at h1
  have h2 := aC name (by omega)
  have h3 := ek text (by omega)
  obtain ⟨t, ht⟩ := gl (wq range)
  rw [ht] at h1
  unfold xI
  simp only [zt.enc, List.map_cons, List.map_nil]
  generalize (wq range).isSome = b1 at *
  generalize vj name = b2 at *
  generalize wz text = b3 at *
  cases b2 <;> cases b1 <;> cases b3 <;> cases hn : (text == [])
  all_goals
    apply zu
    refine zw rfl Tryz.func65 rfl (by kernel_rfl) ?_
    unfold Tryz.f65
    simp (disch := ((try simp only [LL]); omega)) only [↓GO, ↓DRW, GA, ren, zB, zd, refs, zb, cst, zl, zH, z7, E.load, E.store, zG, isC, bin, zI, zJ, una, z8, za, zh, zK, blt, fnV, asArg, ze, zn, zo, zj, zi, zg, zk, zr, z6, zD, zF, E.mkS, zc, unN, zM, zm, zy, zC, zf, zN, zq, GS, simprocAttr, GZ, h1, h2, h3, hn, bne]
end Go.Proofs.YtmcephnfcciloaaGreatDoor
/- What the laws' arguments are: Notice. Conditions: those of each lemma. -/
namespace Go.Proofs.YtmcephnfcciloaaGreatDoor
open E
set_option linter.unusedSimpArgs false
set_option linter.unusedVariables false
set_option maxRecDepth 100000
theorem ZG {cs : List T} (h : WT Tryz.prog 48 cs) : ∃ x : zt, cs = x.enc ∧ x.ok := by
  obtain ⟨hl, hs⟩ := h.uU Tryz.underlying48
  have k0 : Tryz.prog.cellsOf 48 = 3 := by kernel_rfl
  have k1 : Tryz.prog.cellsOf 9 = 1 := by kernel_rfl
  rw [k0] at hl
  match cs, hl with
  | [y0, y1, y2], _ =>
    simp [k1] at hs
    obtain ⟨s0, s1, s2⟩ := hs
    obtain ⟨v0, e0, o0⟩ := s0.vt Tryz.underlying9
    obtain ⟨v1, e1, o1⟩ := s1.vt Tryz.underlying9
    obtain ⟨v2, e2, o2⟩ := s2.vt Tryz.underlying9
    simp at e0 e1 e2
    subst e0 e1 e2
    exact ⟨⟨v0, v1, v2⟩, rfl, ⟨o0, o1, o2⟩⟩
end Go.Proofs.YtmcephnfcciloaaGreatDoor
/- What the laws' arguments are: a graph and notices. Conditions: those of each lemma. -/
namespace Go.Proofs.YtmcephnfcciloaaGreatDoor
open E
set_option linter.unusedSimpArgs false
set_option linter.unusedVariables false
set_option maxRecDepth 100000
theorem dB {cs : List T} (h : WT Tryz.prog 26 cs) : ∃ l : List zt, cs = [.list 3 (zt.zV l)] ∧ l.length ≤ 9223372036854775807 ∧ ∀ y ∈ l, y.ok := by
  obtain ⟨es, e1, e2, e3⟩ := h.qo Tryz.underlying26
  have k0 : Tryz.prog.cellsOf 48 = 3 := by kernel_rfl
  have key : ∀ es : List (List T), (∀ c ∈ es, WT Tryz.prog 48 c) → ∃ l : List zt, es = zt.zV l ∧ ∀ y ∈ l, y.ok := fun es => by
    induction es with
    | nil => exact fun _ => ⟨[], rfl, by simp⟩
    | cons c es ih =>
      intro h
      obtain ⟨l, a1, a2⟩ := ih fun c' hc => h c' (by simp [hc])
      obtain ⟨x, a3, a4⟩ := ZG (h c (by simp))
      exact ⟨x :: l, by simp [zt.zV, a1, a3], by simpa using ⟨a4, a2⟩⟩
  obtain ⟨l, a1, a2⟩ := key es e3
  subst a1
  exact ⟨l, by rw [e1, k0], by rw [zt.zR] at e2; exact e2, a2⟩
/-- a graph and notices handed in -/
theorem eL {xs : List V} (h : WTA Tryz.prog [25, 26] xs) : ∃ (g : zU) (ns : List zt), xs = [.agg (g.enc.map .t), .t (.list 3 (zt.zV ns))] ∧ g.ok ∧ ns.length ≤ 9223372036854775807 ∧ ∀ n ∈ ns, n.ok := by
  obtain ⟨cs, v, vs, rfl, h1, h2, h3⟩ := h.fm
  obtain ⟨cs', v', vs', rfl, h1', h2', h3'⟩ := h3.fm
  have := h3'.Un
  subst this
  obtain ⟨g, rfl, ho⟩ := XS h1
  obtain ⟨ns, rfl, hl, hon⟩ := dB h1'
  obtain ⟨top, packs⟩ := g
  have e : y9 Tryz.prog 25 = true := by kernel_rfl
  have e' : y9 Tryz.prog 26 = false := by kernel_rfl
  rw [e] at h2
  rw [e'] at h2'
  simp [zh, zU.enc] at h2 h2'
  subst h2 h2'
  exact ⟨⟨top, packs⟩, ns, rfl, ho, hl, hon⟩
end Go.Proofs.YtmcephnfcciloaaGreatDoor
/- The laws' own functions over trees: sizes, comparisons. Conditions: those of each lemma. -/
namespace Go.Proofs.YtmcephnfcciloaaGreatDoor
open E
set_option linter.unusedSimpArgs false
set_option linter.unusedVariables false
set_option maxRecDepth 100000
end Go.Proofs.YtmcephnfcciloaaGreatDoor
/- Lists that own their memory, as rows; trees laid anew. Conditions: those of each lemma. -/
namespace Go.Proofs.YtmcephnfcciloaaGreatDoor
open E
set_option linter.unusedSimpArgs false
set_option linter.unusedVariables false
set_option maxRecDepth 100000
/-- a row whose lists are owned -/
def ocE (es : List (List T)) : List (List V) := es.map fun e => e.map oc
theorem qw (es : List (List T)) : (ocE es).length = es.length := by simp [ocE]
theorem bq (a b : List (List T)) : ocE (a ++ b) = ocE a ++ ocE b := by simp [ocE]
theorem tW (x : List T) (b : List (List T)) : ocE (x :: b) = x.map oc :: ocE b := rfl
theorem bp : ocE [] = [] := rfl
theorem U3 (x : T) : refs (oc x) = [] := by cases x <;> rfl
theorem gK : ∀ e : List T, refs.refss (e.map oc) = []
  | [] => rfl
  | x :: e => by simp only [List.map_cons, refs.refss, U3, gK e, List.nil_append]
theorem yX : ∀ es : List (List T), (ocE es).flatMap refs.refss = []
  | [] => rfl
  | e :: es => by rw [tW, List.flatMap_cons, gK, yX es]; rfl
theorem TO (m : Nat → Option Nat) (x : T) : ren m (oc x) = oc x := by cases x <;> rfl
theorem bm (m : Nat → Option Nat) : ∀ e : List T, ren.rens m (e.map oc) = e.map oc
  | [] => rfl
  | x :: e => by simp only [List.map_cons, ren.rens, TO, bm m e]
theorem xy (m : Nat → Option Nat) : ∀ es : List (List T), (ocE es).map (ren.rens m) = ocE es
  | [] => rfl
  | e :: es => by rw [tW, List.map_cons, bm, xy m es]
theorem mg (z : List V) (hz : refs.refss z = []) : ∀ k, (List.replicate k z).flatMap refs.refss = []
  | 0 => rfl
  | k + 1 => by rw [List.replicate_succ, List.flatMap_cons, hz, mg z hz k]; rfl
theorem b7 (m : Nat → Option Nat) (z : List V) (hz : ren.rens m z = z) (k : Nat) : (List.replicate k z).map (ren.rens m) = List.replicate k z := by rw [List.map_replicate, hz]
theorem qy {α : Type} (A B : List α) (x : α) (n : Nat) (h : A.length = n) : (A ++ x :: B)[n]? = some x := by
  rw [List.getElem?_append_right (by omega), h, Nat.sub_self]; rfl
theorem qx {α : Type} (A B : List α) (x y : α) (n : Nat) (h : A.length = n) : (A ++ x :: B).set n y = A ++ y :: B := by
  rw [List.set_append_right _ _ (by omega), h, Nat.sub_self]; rfl
theorem gv_oc (x : T) : gvC (oc x) = some x := by cases x <;> rfl
theorem Vj : ∀ e : List T, eJ (e.map oc) = some e
  | [] => rfl
  | x :: e => by simp only [List.map_cons, eJ, gv_oc, Vj e]
theorem Vk : ∀ es : List (List T), gvE (ocE es) = some es
  | [] => rfl
  | e :: es => by rw [tW]; simp only [gvE, Vj, Vk es]
theorem YN (h : Heap) (x : T) : zi h (oc x) = some x := by cases x <;> rfl
theorem gf (h : Heap) : ∀ e : List T, xz h (e.map oc) = some e
  | [] => rfl
  | x :: e => by simp only [List.map_cons, xz, YN, gf h e]
theorem nY (h : Heap) : ∀ es : List (List T), vQ h (ocE es) = some es
  | [] => rfl
  | e :: es => by rw [tW]; simp only [vQ, gf, nY h es]
theorem vF : ∀ l : List Str, qM (y6 l) = true
  | [] => rfl
  | x :: l => by
    have := vF l
    unfold qM y6 at this ⊢
    rw [List.map_cons, List.all_cons, this]; rfl
theorem mE (ks : List Str) (hl : ks.length ≤ 1048576) : EV Tryz.prog pol (.callO false 30 [.t (.list 1 (y6 ks))] []) = some (.call (.sl 0 0 ks.length (some ks.length)) [.ts 1 (y6 ks)]) := by
  refine yK Tryz.func30 rfl (by kernel_rfl) ?_
  unfold Tryz.f30
  have h1 : ¬ ((ks.length : Int) < 0) := by omega
  have h2 : ¬ (ks.length * 16 > 140737488355328) := by omega
  have h3 : ¬ (ks.length > 140737488355328) := by omega
  have hz : List.replicate ks.length [T.str []] = wo (y6 ks) [.str []] 0 := by rw [uW, zP]
  have IH := pW ks hl ks.length 0 (by omega) (by omega)
  simp only [Int.natCast_zero] at IH
  simp (disch := omega) only [↓GO, ↓DRW, GA, ren, zB, zd, refs, zb, cst, zl, zH, z7, E.load, E.store, zG, isC, bin, zI, zJ, una, z8, za, zh, zK, blt, fnV, asArg, ze, zn, zo, zj, zi, zg, zk, zr, z6, zD, zF, E.mkS, zc, unN, zM, zm, zy, zC, zf, zN, zq, GS, simprocAttr, zP, Int.toNat_natCast, h1, h2, h3, hz, IH, ne_eq, not_true_eq_false]
end Go.Proofs.YtmcephnfcciloaaGreatDoor
/- Trees laid anew; marks. Conditions: those of each lemma. -/
namespace Go.Proofs.YtmcephnfcciloaaGreatDoor
open E
set_option linter.unusedSimpArgs false
set_option linter.unusedVariables false
set_option maxRecDepth 100000
def mkD : Nat → Nat → Str → Str
  | 0, _, out => out
  | n + 1, k, out => if k = 0 then out else mkD n (k / 10) (UInt8.ofNat (48 + k % 10) :: out)
/-- a number's mark -/
def mkT (k : Nat) : Str := if k = 0 then [109, 48] else 109 :: mkD k k []
theorem Tl : ∀ (n k : Nat) (out : Str), k ≤ n → k ≤ 9223372036854775807 → out.length + k ≤ 9223372036854775000 →
    EV Tryz.prog pol (.loop 39 60 0 [.t (.int .i64 (k : Int)), .t (.str out)] []) = some (.loop (.exit 0) [.t (.str (mkD n k out))] [])
  | n, 0, out, h, h1, h2 => by
    have e : mkD n 0 out = out := by cases n <;> simp [mkD]
    rw [e]
    refine zz Tryz.func39 rfl rfl ?_
    simp (disch := ((try simp only [LL]); omega)) only [↓GO, ↓DRW, GA, ren, zB, zd, refs, zb, cst, zl, zH, z7, E.load, E.store, zG, isC, bin, zI, zJ, una, z8, za, zh, zK, blt, fnV, asArg, ze, zn, zo, zj, zi, zg, zk, zr, z6, zD, zF, E.mkS, zc, unN, zM, zm, zy, zC, zf, zN, zq, GS, simprocAttr, GZ, Int.natCast_zero]
  | 0, k + 1, out, h, h1, h2 => by omega
  | n + 1, k + 1, out, h, h1, h2 => by
    generalize hm : k + 1 = x at *
    have c : decide (((x : Nat) : Int) > 0) = true := by apply decide_eq_true; omega
    have e1 : ((x : Nat) : Int).tmod 10 = ((x % 10 : Nat) : Int) := (Int.ofNat_tmod x 10).symm
    have e2 : ((x : Nat) : Int).tdiv 10 = ((x / 10 : Nat) : Int) := (Int.ofNat_tdiv x 10).symm
    have hd : x % 10 < 10 := Nat.mod_lt _ (by omega)
    have IH := Tl n (x / 10) (UInt8.ofNat (48 + x % 10) :: out) (by omega) (by omega) (by simp only [List.length_cons]; omega)
    have ex : mkD (n + 1) x out = mkD n (x / 10) (UInt8.ofNat (48 + x % 10) :: out) := by rw [mkD, if_neg (by omega)]
    rw [ex]
    have w1 : IntKind.i64.wrap (48 + ((x % 10 : Nat) : Int)) = ((48 + x % 10 : Nat) : Int) := by rw [zx (by omega)]; omega
    have w3 : IntKind.u8.wrap ((48 + x % 10 : Nat) : Int) = ((48 + x % 10 : Nat) : Int) := by
      have key : ∀ n : Fin 256, IntKind.u8.wrap (n.val : Int) = (n.val : Int) := by decide +kernel
      exact key ⟨48 + x % 10, by omega⟩
    have w2 : IntKind.i64.wrap ((x / 10 : Nat) : Int) = ((x / 10 : Nat) : Int) := zx (by omega)
    refine zz Tryz.func39 rfl rfl ?_
    simp (disch := ((try simp only [LL]); omega)) only [↓GO, ↓DRW, GA, ren, zB, zd, refs, zb, cst, zl, zH, z7, E.load, E.store, zG, isC, bin, zI, zJ, una, z8, za, zh, zK, blt, fnV, asArg, ze, zn, zo, zj, zi, zg, zk, zr, z6, zD, zF, E.mkS, zc, unN, zM, zm, zy, zC, zf, zN, zq, GS, simprocAttr, GZ, c, e1, e2, w1, w2, w3, conv, wN, bytesOf, Int.toNat_natCast, List.singleton_append, wh, IH]
end Go.Proofs.YtmcephnfcciloaaGreatDoor
/- Marks in lists of texts, in trees. Conditions: those of each lemma. -/
namespace Go.Proofs.YtmcephnfcciloaaGreatDoor
open E
set_option linter.unusedSimpArgs false
set_option linter.unusedVariables false
set_option maxRecDepth 100000
theorem ln : y6 [] = [] := rfl
theorem rL (k : Nat) (h : k ≤ 1099511627776) : zE (EV Tryz.prog pol) 39 [.t (.int .i64 (k : Int))] = some (.t (.str (mkT k))) := by
  have L := Tl k k [] (Nat.le_refl _) (by omega) (by simp; omega)
  have hlen : (mkD k k []).length ≤ k := by
    have key : ∀ (n x : Nat) (out : Str), (mkD n x out).length ≤ n + out.length := fun n => by
      induction n with
      | zero => intro x out; simp [mkD]
      | succ n ih =>
        intro x out
        rw [mkD]
        split
        · omega
        · have := ih (x / 10) (UInt8.ofNat (48 + x % 10) :: out); simp only [List.length_cons] at this; omega
    have := key k k []; simpa using this
  unfold mkT
  by_cases h0 : k = 0
  · subst h0
    have c : decide (((0 : Nat) : Int) ≤ 0) = true := by decide
    rw [if_pos rfl]
    apply zu
    refine zw rfl Tryz.func39 rfl (by kernel_rfl) ?_
    unfold Tryz.f39
    simp (disch := ((try simp only [LL]); omega)) only [↓GO, ↓DRW, GA, ren, zB, zd, refs, zb, cst, zl, zH, z7, E.load, E.store, zG, isC, bin, zI, zJ, una, z8, za, zh, zK, blt, fnV, asArg, ze, zn, zo, zj, zi, zg, zk, zr, z6, zD, zF, E.mkS, zc, unN, zM, zm, zy, zC, zf, zN, zq, GS, simprocAttr, GZ, c, Int.natCast_zero]
  · have c : decide (((k : Nat) : Int) ≤ 0) = false := by apply decide_eq_false; omega
    rw [if_neg h0]
    generalize mkD k k [] = ms at *
    apply zu
    refine zw rfl Tryz.func39 rfl (by kernel_rfl) ?_
    unfold Tryz.f39
    simp (disch := ((try simp only [LL]); omega)) only [↓GO, ↓DRW, GA, ren, zB, zd, refs, zb, cst, zl, zH, z7, E.load, E.store, zG, isC, bin, zI, zJ, una, z8, za, zh, zK, blt, fnV, asArg, ze, zn, zo, zj, zi, zg, zk, zr, z6, zD, zF, E.mkS, zc, unN, zM, zm, zy, zC, zf, zN, zq, GS, simprocAttr, GZ, c, L, List.singleton_append, List.cons_append, List.nil_append, wh]
def mkS : Nat → Nat → List Str
  | 0, _ => []
  | n + 1, k => mkT k :: mkS n (k + 1)
theorem vr : ∀ n k, (mkS n k).length = n
  | 0, _ => rfl
  | n + 1, k => by rw [mkS, List.length_cons, vr n (k + 1)]
theorem gU : ∀ n k, mkS (n + 1) k = mkS n k ++ [mkT (k + n)]
  | 0, k => rfl
  | n + 1, k => by
    rw [mkS, gU n (k + 1), mkS, List.cons_append, show k + 1 + n = k + (n + 1) by omega]
theorem bM (ks : List Str) (hl : ks.length ≤ 134217728) (cap : Option Nat) (k : Nat) (hk : k ≤ 1073741824) : ∀ (rest pre : List Str), ks = pre ++ rest →
    EV Tryz.prog pol (.loop 17 26 1 [.sl 0 0 ks.length cap, .t (.int .i64 ((k + pre.length : Nat) : Int)), .t (.int .i64 (pre.length : Int))] [.ts 1 (y6 (mkS pre.length k) ++ y6 rest)])
      = some (.loop (.exit 0) [.t (.int .i64 ((k + ks.length : Nat) : Int))] [.ts 1 (y6 (mkS ks.length k))])
  | [], pre, hs => by
    have c : decide ((pre.length : Int) < (ks.length : Int)) = false := by simp [hs]
    have e : ks = pre := by simpa using hs
    simp only [ln, List.append_nil]
    refine zz Tryz.func17 rfl rfl ?_
    simp (disch := ((try simp only [LL]); omega)) only [↓GO, ↓DRW, GA, ren, zB, zd, refs, zb, cst, zl, zH, z7, E.load, E.store, zG, isC, bin, zI, zJ, una, z8, za, zh, zK, blt, fnV, asArg, ze, zn, zo, zj, zi, zg, zk, zr, z6, zD, zF, E.mkS, zc, unN, zM, zm, zy, zC, zf, zN, zq, GS, simprocAttr, GZ, c]
    rw [e]
  | x :: rest, pre, hs => by
    have c : decide ((pre.length : Int) < (ks.length : Int)) = true := by simp [hs]; omega
    have c0 : decide ((0 : Int) ≤ (pre.length : Int)) = true := by simp
    have hlen : pre.length + rest.length + 1 ≤ ks.length := by rw [hs]; simp; omega
    have hm := rL (k + pre.length) (by omega)
    have IH := bM ks hl cap k hk rest (pre ++ [x]) (by rw [hs]; simp)
    rw [show (pre ++ [x]).length = pre.length + 1 by simp, gU, show y6 (mkS pre.length k ++ [mkT (k + pre.length)]) = y6 (mkS pre.length k) ++ [[.str (mkT (k + pre.length))]] by simp [y6], List.append_assoc, List.cons_append, List.nil_append] at IH
    rw [show k + (pre.length + 1) = k + pre.length + 1 by omega] at IH
    have w : IntKind.i64.wrap (((k + pre.length : Nat) : Int) + 1) = ((k + pre.length + 1 : Nat) : Int) := by rw [zx (by omega)]; omega
    have w2 : IntKind.i64.wrap ((pre.length : Int) + 1) = ((pre.length + 1 : Nat) : Int) := by rw [zx (by omega)]; omega
    have hAl : (y6 (mkS pre.length k)).length = pre.length := by rw [zP, vr]
    rw [show y6 (x :: rest) = [.str x] :: y6 rest from rfl]
    have hg1 := fun y => qy (y6 (mkS pre.length k)) (y6 rest) y pre.length hAl
    have hs1 := fun y z => qx (y6 (mkS pre.length k)) (y6 rest) y z pre.length hAl
    clear hs
    generalize y6 (mkS pre.length k) = A at *
    generalize mkT (k + pre.length) = mt at *
    generalize k + pre.length = kp at *
    refine zz Tryz.func17 rfl rfl ?_
    simp (disch := ((try simp only [LL]); omega)) only [↓GO, ↓DRW, GA, ren, zB, zd, refs, zb, cst, zl, zH, z7, E.load, E.store, zG, isC, bin, zI, zJ, una, z8, za, zh, zK, blt, fnV, asArg, ze, zn, zo, zj, zi, zg, zk, zr, z6, zD, zF, E.mkS, zc, unN, zM, zm, zy, zC, zf, zN, zq, GS, simprocAttr, GZ, c, c0, if_true, Int.toNat_natCast, hm, hg1, hs1, w, w2, IH]
theorem jC (ks : List Str) (hl : ks.length ≤ 134217728) (cap : Option Nat) (k : Nat) (hk : k ≤ 1073741824) (n : Nat) (hn : n = ks.length) :
    EV Tryz.prog pol (.callO false 17 [.sl 0 0 n cap, .t (.int .i64 (k : Int))] [.ts 1 (y6 ks)]) = some (.call (.t (.int .i64 ((k + ks.length : Nat) : Int))) [.ts 1 (y6 (mkS ks.length k))]) := by
  subst hn
  have L := bM ks hl cap k hk ks [] rfl
  simp only [List.length_nil, Int.natCast_zero, mkS, ln, List.nil_append, Nat.add_zero] at L
  refine yK Tryz.func17 rfl (by kernel_rfl) ?_
  unfold Tryz.f17
  simp (disch := ((try simp only [LL]); omega)) only [↓GO, ↓DRW, GA, ren, zB, zd, refs, zb, cst, zl, zH, z7, E.load, E.store, zG, isC, bin, zI, zJ, una, z8, za, zh, zK, blt, fnV, asArg, ze, zn, zo, zj, zi, zg, zk, zr, z6, zD, zF, E.mkS, zc, unN, zM, zm, zy, zC, zf, zN, zq, GS, simprocAttr, GZ, L]
end Go.Proofs.YtmcephnfcciloaaGreatDoor
/- Marks in trees. Conditions: those of each lemma. -/
namespace Go.Proofs.YtmcephnfcciloaaGreatDoor
open E
set_option linter.unusedSimpArgs false
set_option linter.unusedVariables false
set_option maxRecDepth 100000
end Go.Proofs.YtmcephnfcciloaaGreatDoor
/- Marks in trees, all; marks found again. Conditions: those of each lemma. -/
namespace Go.Proofs.YtmcephnfcciloaaGreatDoor
open E
set_option linter.unusedSimpArgs false
set_option linter.unusedVariables false
set_option maxRecDepth 100000
theorem bQ (ks : List Str) (hl : ks.length ≤ 134217728) (k : Nat) (hk : k ≤ 1073741824) : ∀ (n i : Nat), i + n = ks.length → ks = mkS ks.length k →
    EV Tryz.prog pol (.loop 18 26 0 [.t (.list 1 (y6 ks)), .t (.int .i64 ((k + i : Nat) : Int)), .t (.int .i64 (i : Int))] []) = some (.loop (.exit 0) [.t (.int .i64 ((k + ks.length : Nat) : Int)), .bad] [])
  | 0, i, hi, hm => by
    have c : decide ((i : Int) < (ks.length : Int)) = false := by apply decide_eq_false; omega
    have e : i = ks.length := by omega
    refine zz Tryz.func18 rfl rfl ?_
    simp (disch := ((try simp only [LL]); omega)) only [↓GO, ↓DRW, GA, ren, zB, zd, refs, zb, cst, zl, zH, z7, E.load, E.store, zG, isC, bin, zI, zJ, una, z8, za, zh, zK, blt, fnV, asArg, ze, zn, zo, zj, zi, zg, zk, zr, z6, zD, zF, E.mkS, zc, unN, zM, zm, zy, zC, zf, zN, zq, GS, simprocAttr, GZ, c, zP]
    rw [e]
  | n + 1, i, hi, hm => by
    have c : decide ((i : Int) < (ks.length : Int)) = true := by apply decide_eq_true; omega
    have hg : ∀ (m j q : Nat), j < m → (mkS m q)[j]? = some (mkT (q + j)) := fun m => by
      induction m with
      | zero => intro j q h; omega
      | succ m ih =>
        intro j q h
        cases j with
        | zero => rfl
        | succ j => rw [mkS, List.getElem?_cons_succ, ih j (q + 1) (by omega), show q + 1 + j = q + (j + 1) by omega]
    have hget : (y6 ks)[i]? = some [.str (mkT (k + i))] := by
      have := hg ks.length i k (by omega)
      rw [hm]
      simp only [y6, List.getElem?_map, vr, this, Option.map_some]
    have hmt := rL (k + i) (by omega)
    have IH := bQ ks hl k hk n (i + 1) (by omega) hm
    have w : IntKind.i64.wrap (((k + i : Nat) : Int) + 1) = ((k + (i + 1) : Nat) : Int) := by rw [zx (by omega)]; omega
    have w2 : IntKind.i64.wrap ((i : Int) + 1) = ((i + 1 : Nat) : Int) := by rw [zx (by omega)]; omega
    clear hm
    generalize mkT (k + i) = mt at *
    refine zz Tryz.func18 rfl rfl ?_
    simp (disch := ((try simp only [LL]); omega)) only [↓GO, ↓DRW, GA, ren, zB, zd, refs, zb, cst, zl, zH, z7, E.load, E.store, zG, isC, bin, zI, zJ, una, z8, za, zh, zK, blt, fnV, asArg, ze, zn, zo, zj, zi, zg, zk, zr, z6, zD, zF, E.mkS, zc, unN, zM, zm, zy, zC, zf, zN, zq, GS, simprocAttr, GZ, c, zP, hget, hmt, w, w2, IH, bne_self_eq_false]
theorem aF (n k : Nat) (hn : n ≤ 134217728) (hk : k ≤ 1073741824) : zE (EV Tryz.prog pol) 18 [.t (.list 1 (y6 (mkS n k))), .t (.int .i64 (k : Int))] = some (.t (.int .i64 ((k + n : Nat) : Int))) := by
  have L := bQ (mkS n k) (by rw [vr]; exact hn) k hk n 0 (by rw [vr]; omega) (by rw [vr])
  rw [vr] at L
  simp only [Int.natCast_zero, Nat.add_zero] at L
  apply zu
  refine zw rfl Tryz.func18 rfl (by kernel_rfl) ?_
  unfold Tryz.f18
  simp (disch := ((try simp only [LL]); omega)) only [↓GO, ↓DRW, GA, ren, zB, zd, refs, zb, cst, zl, zH, z7, E.load, E.store, zG, isC, bin, zI, zJ, una, z8, za, zh, zK, blt, fnV, asArg, ze, zn, zo, zj, zi, zg, zk, zr, z6, zD, zF, E.mkS, zc, unN, zM, zm, zy, zC, zf, zN, zq, GS, simprocAttr, GZ, L]
end Go.Proofs.YtmcephnfcciloaaGreatDoor
/- Trees copied, by both. Conditions: those of each lemma. -/
namespace Go.Proofs.YtmcephnfcciloaaGreatDoor
open E
set_option linter.unusedSimpArgs false
set_option linter.unusedVariables false
set_option maxRecDepth 100000
end Go.Proofs.YtmcephnfcciloaaGreatDoor
/- Trees copied by the implementation: their memory is their own; what stands under a key, by both. Conditions: those of each lemma. -/
namespace Go.Proofs.YtmcephnfcciloaaGreatDoor
open E
set_option linter.unusedSimpArgs false
set_option linter.unusedVariables false
set_option maxRecDepth 100000
end Go.Proofs.YtmcephnfcciloaaGreatDoor
/- What stands under a key, by both. Conditions: those of each lemma. -/
namespace Go.Proofs.YtmcephnfcciloaaGreatDoor
open E
set_option linter.unusedSimpArgs false
set_option linter.unusedVariables false
set_option maxRecDepth 100000
theorem Xu (k : Int) : EV Tryz.prog pol (.callO false 17 [.nil 1, .t (.int .i64 k)] []) = some (.call (.t (.int .i64 k)) []) := by
  have L : EV Tryz.prog pol (.loop 17 26 0 [.nil 1, .t (.int .i64 k), .t (.int .i64 0)] []) = some (.loop (.exit 0) [.t (.int .i64 k)] []) := by
    refine zz Tryz.func17 rfl rfl ?_
    simp (disch := ((try simp only [LL]); omega)) only [↓GO, ↓DRW, GA, ren, zB, zd, refs, zb, cst, zl, zH, z7, E.load, E.store, zG, isC, bin, zI, zJ, una, z8, za, zh, zK, blt, fnV, asArg, ze, zn, zo, zj, zi, zg, zk, zr, z6, zD, zF, E.mkS, zc, unN, zM, zm, zy, zC, zf, zN, zq, GS, simprocAttr, GZ, Int.natCast_zero]
  refine yK Tryz.func17 rfl (by kernel_rfl) ?_
  unfold Tryz.f17
  simp (disch := ((try simp only [LL]); omega)) only [↓GO, ↓DRW, GA, ren, zB, zd, refs, zb, cst, zl, zH, z7, E.load, E.store, zG, isC, bin, zI, zJ, una, z8, za, zh, zK, blt, fnV, asArg, ze, zn, zo, zj, zi, zg, zk, zr, z6, zD, zF, E.mkS, zc, unN, zM, zm, zy, zC, zf, zN, zq, GS, simprocAttr, GZ, L]
end Go.Proofs.YtmcephnfcciloaaGreatDoor
/- Graphs laid anew, with memory of their own. Conditions: those of each lemma. -/
namespace Go.Proofs.YtmcephnfcciloaaGreatDoor
open E
set_option linter.unusedSimpArgs false
set_option linter.unusedVariables false
set_option maxRecDepth 100000
theorem uV : ∀ l : List zZ, qM (zZ.zV l) = true
  | [] => rfl
  | x :: l => by
    have := uV l
    unfold qM zZ.zV at this ⊢
    rw [List.map_cons, List.all_cons, this]; rfl
theorem eW (a : List zL) (x : zL) : zL.zV (a ++ [x]) = zL.zV a ++ [x.enc] := by simp [zL.zV]
theorem Za (a b : List zL) : zL.zV (a ++ b) = zL.zV a ++ zL.zV b := by simp [zL.zV]
def zPk : List V := [.t (.str []), .t (.str []), .t (.str []), .nil 2, .t (.bool false), .nil 1]
theorem Xn (cs : List zZ) (hl : cs.length ≤ 1048576) (hc : ∀ c ∈ cs, eF c) : EV Tryz.prog pol (.callO false 90 [.t (.list 2 (zZ.zV cs))] []) = some (.call (.sl 0 0 cs.length (some cs.length)) [.ts 2 (zZ.zV cs)]) := by
  refine yK Tryz.func90 rfl (by kernel_rfl) ?_
  unfold Tryz.f90
  have h1 : ¬ ((cs.length : Int) < 0) := by omega
  have h2 : ¬ (cs.length * 32 > 140737488355328) := by omega
  have h3 : ¬ (cs.length > 140737488355328) := by omega
  have hz : List.replicate cs.length [T.str [], .str []] = wo (zZ.zV cs) YF 0 := by rw [uW, zZ.zR]; rfl
  have IH := gY cs hl hc cs.length 0 (by omega) (by omega)
  simp only [Int.natCast_zero] at IH
  simp (disch := omega) only [E.mkS, ↓GO, ↓DRW, GA, ren, zB, zd, refs, zb, cst, zl, zH, z7, E.load, E.store, zG, isC, bin, zI, zJ, una, z8, za, zh, zK, blt, fnV, asArg, ze, zn, zo, zj, zi, zg, zk, zr, z6, zD, zF, E.mkS, zc, unN, zM, zm, zy, zC, zf, zN, zq, GS, simprocAttr, zZ.zR, Int.toNat_natCast, h1, h2, h3, hz, IH, ne_eq, not_true_eq_false]
def VJ (x : zL) : Prop := EV Tryz.prog pol (.callO false 61 [.agg (x.enc.map .t)] []) = some (.call (.agg [.t (.str x.name), .t (.str x.version), .t (.str x.source), .sl 0 0 x.sums.length (some x.sums.length), .t (.bool x.dev), .sl 1 0 x.needs.length (some x.needs.length)]) [.ts 2 (zZ.zV x.sums), .ts 1 (y6 x.needs)])
theorem Vn (x : zL) (ho : x.yh ≤ 1048576) : VJ x := by
  obtain ⟨name, version, source, sums, dev, needs⟩ := x
  simp only [zL.yh] at ho
  have d1 := Xn sums (by omega) (fun c hc => UC c (by have := zZ.yp hc; omega))
  have d2 := mE needs (by omega)
  simp only [VJ, zL.enc, List.map_cons, List.map_nil]
  refine yK Tryz.func61 rfl (by kernel_rfl) ?_
  unfold Tryz.f61
  simp (disch := ((try simp only [LL]); omega)) only [↓GO, ↓DRW, GA, ren, zB, zd, refs, zb, cst, zl, zH, z7, E.load, E.store, zG, isC, bin, zI, zJ, una, z8, za, zh, zK, blt, fnV, asArg, ze, zn, zo, zj, zi, zg, zk, zr, z6, zD, zF, E.mkS, zc, unN, zM, zm, zy, zC, zf, zN, zq, GS, simprocAttr, yO, yP, qI, r9, rP, rO, w9, mkO, tD, tr, vd, qC, yZ, r7, r4, xu, oc, oTs, oT, xf, xf.rowTs, tA, isL, Bool.not_false, Bool.true_and, Bool.and_true, Bool.and_self, List.flatMap_append, List.map_append, List.set_cons_zero, List.set_cons_succ, GZ, d1, d2, zY]
theorem V8 (cs : List zL) (hl : cs.length ≤ 1048576) (hc : ∀ c ∈ cs, VJ c) : ∀ (rest pre : List zL), cs = pre ++ rest →
    EV Tryz.prog pol (.loop 31 58 0 [.t (.list 6 (zL.zV cs)), .sl 0 0 cs.length (some cs.length), .t (.int .i64 (pre.length : Int))] [.vs 6 (ocE (zL.zV pre) ++ List.replicate rest.length zPk)])
      = some (.loop (.exit 0) [.sl 0 0 cs.length (some cs.length)] [.vs 6 (ocE (zL.zV cs))])
  | [], pre, hs => by
    have c : decide ((pre.length : Int) < (cs.length : Int)) = false := by simp [hs]
    have e : cs = pre := by simpa using hs
    have hA := yX (zL.zV pre)
    have hR := fun m => xy m (zL.zV pre)
    simp only [List.length_nil, List.replicate_zero, List.append_nil]
    refine zz Tryz.func31 rfl rfl ?_
    simp (disch := ((try simp only [LL]); omega)) only [↓GO, ↓DRW, GA, ren, zB, zd, refs, zb, cst, zl, zH, z7, E.load, E.store, zG, isC, bin, zI, zJ, una, z8, za, zh, zK, blt, fnV, asArg, ze, zn, zo, zj, zi, zg, zk, zr, z6, zD, zF, E.mkS, zc, unN, zM, zm, zy, zC, zf, zN, zq, GS, simprocAttr, yO, yP, qI, r9, rP, rO, w9, mkO, tD, tr, vd, qC, yZ, r7, r4, xu, oc, oTs, oT, xf, xf.rowTs, tA, isL, Bool.not_false, Bool.true_and, Bool.and_true, Bool.and_self, List.flatMap_append, List.map_append, List.set_cons_zero, List.set_cons_succ, GZ, zL.zR, c, hA, hR]
    rw [e]
  | x :: rest, pre, hs => by
    have c : decide ((pre.length : Int) < (cs.length : Int)) = true := by simp [hs]; omega
    have hget : (zL.zV cs)[pre.length]? = some x.enc := by rw [hs]; simp [zL.zV]
    have hlen : pre.length + rest.length + 1 ≤ cs.length := by rw [hs]; simp; omega
    have hcx := hc x (by rw [hs]; simp)
    have c0 : decide ((0 : Int) ≤ (pre.length : Int)) = true := by simp
    have c00 : (0 : Int) ≤ (pre.length : Int) := by omega
    have IH := V8 cs hl hc rest (pre ++ [x]) (by rw [hs]; simp)
    rw [show ((pre ++ [x]).length : Int) = (pre.length : Int) + 1 by simp, eW, bq, tW, bp, List.append_assoc, List.cons_append, List.nil_append] at IH
    have hAl : (ocE (zL.zV pre)).length = pre.length := by rw [qw, zL.zR]
    have hA := yX (zL.zV pre)
    have hR := fun m => xy m (zL.zV pre)
    have hB := mg zPk rfl rest.length
    have hRB := fun m => b7 m zPk rfl rest.length
    rw [List.length_cons, List.replicate_succ]
    have hg1 := fun y => qy (ocE (zL.zV pre)) (List.replicate rest.length zPk) y pre.length hAl
    have hs1 := fun y z => qx (ocE (zL.zV pre)) (List.replicate rest.length zPk) y z pre.length hAl
    clear hs
    obtain ⟨name, version, source, sums, dev, needs⟩ := x
    have hf1 := uV sums
    have hf2 := vF needs
    simp only [VJ, zL.enc, List.map_cons, List.map_nil, oc] at hcx hget IH
    generalize ocE (zL.zV pre) = A at *
    generalize List.replicate rest.length zPk = B at *
    unfold zPk
    refine zz Tryz.func31 rfl rfl ?_
    simp (disch := ((try simp only [LL]); omega)) only [↓GO, ↓DRW, GA, ren, zB, zd, refs, zb, cst, zl, zH, z7, E.load, E.store, zG, isC, bin, zI, zJ, una, z8, za, zh, zK, blt, fnV, asArg, ze, zn, zo, zj, zi, zg, zk, zr, z6, zD, zF, E.mkS, zc, unN, zM, zm, zy, zC, zf, zN, zq, GS, simprocAttr, yO, yP, qI, r9, rP, rO, w9, mkO, tD, tr, vd, qC, yZ, r7, r4, xu, oc, oTs, oT, xf, xf.rowTs, tA, isL, Bool.not_false, Bool.true_and, Bool.and_true, Bool.and_self, List.flatMap_append, List.map_append, List.set_cons_zero, List.set_cons_succ, GZ, zL.zR, zZ.zR, c, c0, c00, if_true, Int.toNat_natCast, hget, hcx, hg1, hs1, hA, hR, hB, hRB, zx, hf1, hf2, IH, zP, qw, xy, yX, zY]
theorem nO (cs : List zL) (hl : cs.length ≤ 1048576) (hc : ∀ c ∈ cs, VJ c) : EV Tryz.prog pol (.callO false 31 [.t (.list 6 (zL.zV cs))] []) = some (.call (.sl 0 0 cs.length (some cs.length)) [.vs 6 (ocE (zL.zV cs))]) := by
  refine yK Tryz.func31 rfl (by kernel_rfl) ?_
  unfold Tryz.f31
  have h1 : ¬ ((cs.length : Int) < 0) := by omega
  have h2 : ¬ (cs.length * 104 > 140737488355328) := by omega
  have h3 : ¬ (cs.length > 140737488355328) := by omega
  have L := V8 cs hl hc cs [] rfl
  simp only [List.length_nil, Int.natCast_zero, show zL.zV [] = [] from rfl, bp, List.nil_append] at L
  have hB := mg zPk rfl cs.length
  have hRB := fun m => b7 m zPk rfl cs.length
  unfold zPk at L hB hRB
  simp (disch := ((try simp only [LL]); omega)) only [↓GO, ↓DRW, GA, ren, zB, zd, refs, zb, cst, zl, zH, z7, E.load, E.store, zG, isC, bin, zI, zJ, una, z8, za, zh, zK, blt, fnV, asArg, ze, zn, zo, zj, zi, zg, zk, zr, z6, zD, zF, E.mkS, zc, unN, zM, zm, zy, zC, zf, zN, zq, GS, simprocAttr, yO, yP, qI, r9, rP, rO, w9, mkO, tD, tr, vd, qC, yZ, r7, r4, xu, oc, oTs, oT, xf, xf.rowTs, tA, isL, Bool.not_false, Bool.true_and, Bool.and_true, Bool.and_self, List.flatMap_append, List.map_append, List.set_cons_zero, List.set_cons_succ, GZ, zL.zR, Int.toNat_natCast, h1, h2, h3, L, hB, hRB, xy, yX, ne_eq, not_true_eq_false, not_false_eq_true, zY]
def LC (x : zU) : Prop := EV Tryz.prog pol (.callO false 9 [.agg (x.enc.map .t)] []) = some (.call (.agg [.sl 0 0 x.top.length (some x.top.length), .sl 1 0 x.packs.length (some x.packs.length)]) [.ts 1 (y6 x.top), .vs 6 (ocE (zL.zV x.packs))])
theorem S0 (x : zU) (ho : x.yh ≤ 1048576) : LC x := by
  obtain ⟨top, packs⟩ := x
  simp only [zU.yh] at ho
  have d1 := mE top (by omega)
  have d2 := nO packs (by omega) (fun c hc => Vn c (by have := zL.yp hc; omega))
  simp only [LC, zU.enc, List.map_cons, List.map_nil]
  refine yK Tryz.func9 rfl (by kernel_rfl) ?_
  unfold Tryz.f9
  simp (disch := ((try simp only [LL]); omega)) only [↓GO, ↓DRW, GA, ren, zB, zd, refs, zb, cst, zl, zH, z7, E.load, E.store, zG, isC, bin, zI, zJ, una, z8, za, zh, zK, blt, fnV, asArg, ze, zn, zo, zj, zi, zg, zk, zr, z6, zD, zF, E.mkS, zc, unN, zM, zm, zy, zC, zf, zN, zq, GS, simprocAttr, yO, yP, qI, r9, rP, rO, w9, mkO, tD, tr, vd, qC, yZ, r7, r4, xu, oc, oTs, oT, xf, xf.rowTs, tA, isL, Bool.not_false, Bool.true_and, Bool.and_true, Bool.and_self, List.flatMap_append, List.map_append, List.set_cons_zero, List.set_cons_succ, GZ, d1, d2, xy, yX, zY]
/-- and as a value that nobody writes -/
def LD (x : zU) : Prop := zE (EV Tryz.prog pol) 9 [.agg (x.enc.map .t)] = some (.agg (x.enc.map .t))
theorem S1 (x : zU) (ho : x.yh ≤ 1048576) : LD x := by
  obtain ⟨top, packs⟩ := x
  simp only [zU.yh] at ho
  have d1 := mE top (by omega)
  have d2 := nO packs (by omega) (fun c hc => Vn c (by have := zL.yp hc; omega))
  have g := Vk (zL.zV packs)
  have ht : (zL.zV packs).take packs.length = zL.zV packs := by rw [← zL.zR packs]; simp
  have ht2 : (y6 top).take top.length = y6 top := by rw [← zP top]; simp
  simp only [LD, zU.enc, List.map_cons, List.map_nil]
  apply zu
  refine zw rfl Tryz.func9 rfl (by kernel_rfl) ?_
  unfold Tryz.f9
  simp (disch := ((try simp only [LL]); omega)) only [↓GO, ↓DRW, GA, ren, zB, zd, refs, zb, cst, zl, zH, z7, E.load, E.store, zG, isC, bin, zI, zJ, una, z8, za, zh, zK, blt, fnV, asArg, ze, zn, zo, zj, zi, zg, zk, zr, z6, zD, zF, E.mkS, zc, unN, zM, zm, zy, zC, zf, zN, zq, GS, simprocAttr, yO, yP, qI, r9, rP, rO, w9, mkO, tD, tr, vd, qC, yZ, r7, r4, xu, oc, oTs, oT, xf, xf.rowTs, tA, isL, Bool.not_false, Bool.true_and, Bool.and_true, Bool.and_self, List.flatMap_append, List.map_append, List.set_cons_zero, List.set_cons_succ, GZ, d1, d2, g, ht, ht2, xy, yX, zY]
end Go.Proofs.YtmcephnfcciloaaGreatDoor
/- Marks in graphs. Conditions: those of each lemma. -/
namespace Go.Proofs.YtmcephnfcciloaaGreatDoor
open E
set_option linter.unusedSimpArgs false
set_option linter.unusedVariables false
set_option maxRecDepth 100000
def tq : Nat → Nat → List zZ
  | 0, _ => []
  | n + 1, k => ⟨mkT k, mkT (k + 1)⟩ :: tq n (k + 2)
theorem mu : ∀ n k, (tq n k).length = n
  | 0, _ => rfl
  | n + 1, k => by rw [tq, List.length_cons, mu n (k + 2)]
theorem lP : ∀ n k, tq (n + 1) k = tq n k ++ [⟨mkT (k + 2 * n), mkT (k + 2 * n + 1)⟩]
  | 0, k => rfl
  | n + 1, k => by
    rw [tq, lP n (k + 2), tq, List.cons_append, show k + 2 + 2 * n = k + 2 * (n + 1) by omega]
theorem fe (cs : List zZ) (hl : cs.length ≤ 4194304) (cap : Option Nat) (k : Nat) (hk : k ≤ 1073741824) : ∀ (rest pre : List zZ), cs = pre ++ rest →
    EV Tryz.prog pol (.loop 68 26 1 [.sl 0 0 cs.length cap, .t (.int .i64 ((k + 2 * pre.length : Nat) : Int)), .t (.int .i64 (pre.length : Int))] [.ts 2 (zZ.zV (tq pre.length k) ++ zZ.zV rest)])
      = some (.loop (.exit 0) [.t (.int .i64 ((k + 2 * cs.length : Nat) : Int))] [.ts 2 (zZ.zV (tq cs.length k))])
  | [], pre, hs => by
    have c : decide ((pre.length : Int) < (cs.length : Int)) = false := by simp [hs]
    have e : cs = pre := by simpa using hs
    simp only [show zZ.zV [] = [] from rfl, List.append_nil]
    refine zz Tryz.func68 rfl rfl ?_
    simp (disch := ((try simp only [LL]); omega)) only [↓GO, ↓DRW, GA, ren, zB, zd, refs, zb, cst, zl, zH, z7, E.load, E.store, zG, isC, bin, zI, zJ, una, z8, za, zh, zK, blt, fnV, asArg, ze, zn, zo, zj, zi, zg, zk, zr, z6, zD, zF, E.mkS, zc, unN, zM, zm, zy, zC, zf, zN, zq, GS, simprocAttr, GZ, c]
    rw [e]
  | x :: rest, pre, hs => by
    have c : decide ((pre.length : Int) < (cs.length : Int)) = true := by simp [hs]; omega
    have c0 : decide ((0 : Int) ≤ (pre.length : Int)) = true := by simp
    have c00 : (0 : Int) ≤ (pre.length : Int) := by omega
    have hlen : pre.length + rest.length + 1 ≤ cs.length := by rw [hs]; simp; omega
    have hm := rL (k + 2 * pre.length) (by omega)
    have hm2 := rL (k + 2 * pre.length + 1) (by omega)
    have IH := fe cs hl cap k hk rest (pre ++ [x]) (by rw [hs]; simp)
    rw [show (pre ++ [x]).length = pre.length + 1 by simp, lP, show zZ.zV (tq pre.length k ++ [⟨mkT (k + 2 * pre.length), mkT (k + 2 * pre.length + 1)⟩]) = zZ.zV (tq pre.length k) ++ [[.str (mkT (k + 2 * pre.length)), .str (mkT (k + 2 * pre.length + 1))]] by simp [zZ.zV, zZ.enc], List.append_assoc, List.cons_append, List.nil_append] at IH
    rw [show k + 2 * (pre.length + 1) = k + 2 * pre.length + 2 by omega] at IH
    have hAl : (zZ.zV (tq pre.length k)).length = pre.length := by rw [zZ.zR, mu]
    rw [show zZ.zV (x :: rest) = [.str x.alg, .str x.bytes] :: zZ.zV rest from rfl]
    have hg1 := fun y => qy (zZ.zV (tq pre.length k)) (zZ.zV rest) y pre.length hAl
    have hs1 := fun y z => qx (zZ.zV (tq pre.length k)) (zZ.zV rest) y z pre.length hAl
    clear hs
    generalize zZ.zV (tq pre.length k) = A at *
    generalize mkT (k + 2 * pre.length + 1) = mt2 at *
    generalize mkT (k + 2 * pre.length) = mt at *
    have hkp : k + 2 * pre.length ≤ 1082130432 := by omega
    generalize k + 2 * pre.length = kp at *
    have w : IntKind.i64.wrap ((kp : Int) + 1) = ((kp + 1 : Nat) : Int) := by rw [zx (by omega)]; omega
    have w1 : IntKind.i64.wrap (((kp + 1 : Nat) : Int) + 1) = ((kp + 2 : Nat) : Int) := by rw [zx (by omega)]; omega
    have w2 : IntKind.i64.wrap ((pre.length : Int) + 1) = ((pre.length + 1 : Nat) : Int) := by rw [zx (by omega)]; omega
    refine zz Tryz.func68 rfl rfl ?_
    simp (disch := ((try simp only [LL]); omega)) only [↓GO, ↓DRW, GA, ren, zB, zd, refs, zb, cst, zl, zH, z7, E.load, E.store, zG, isC, bin, zI, zJ, una, z8, za, zh, zK, blt, fnV, asArg, ze, zn, zo, zj, zi, zg, zk, zr, z6, zD, zF, E.mkS, zc, unN, zM, zm, zy, zC, zf, zN, zq, GS, simprocAttr, GZ, c, c0, c00, if_true, Int.toNat_natCast, hm, hm2, hg1, hs1, w, w1, w2, IH]
theorem Xv (cs : List zZ) (hl : cs.length ≤ 4194304) (cap : Option Nat) (k : Nat) (hk : k ≤ 1073741824) (n : Nat) (hn : n = cs.length) :
    EV Tryz.prog pol (.callO false 68 [.sl 0 0 n cap, .t (.int .i64 (k : Int))] [.ts 2 (zZ.zV cs)]) = some (.call (.t (.int .i64 ((k + 2 * cs.length : Nat) : Int))) [.ts 2 (zZ.zV (tq cs.length k))]) := by
  subst hn
  have L := fe cs hl cap k hk cs [] rfl
  simp only [List.length_nil, Int.natCast_zero, tq, show zZ.zV [] = [] from rfl, List.nil_append, Nat.mul_zero, Nat.add_zero] at L
  refine yK Tryz.func68 rfl (by kernel_rfl) ?_
  unfold Tryz.f68
  simp (disch := ((try simp only [LL]); omega)) only [↓GO, ↓DRW, GA, ren, zB, zd, refs, zb, cst, zl, zH, z7, E.load, E.store, zG, isC, bin, zI, zJ, una, z8, za, zh, zK, blt, fnV, asArg, ze, zn, zo, zj, zi, zg, zk, zr, z6, zD, zF, E.mkS, zc, unN, zM, zm, zy, zC, zf, zN, zq, GS, simprocAttr, GZ, L]
end Go.Proofs.YtmcephnfcciloaaGreatDoor
/- Marks in packs and graphs. Conditions: those of each lemma. -/
namespace Go.Proofs.YtmcephnfcciloaaGreatDoor
open E
set_option linter.unusedSimpArgs false
set_option linter.unusedVariables false
set_option maxRecDepth 100000
def dvB (k : Nat) : Bool := (((k % 3 : Nat) : Int) == 0)
def lf (x : zL) : Nat := 4 + 2 * x.sums.length + x.needs.length
def yJ : List zL → Nat
  | [] => 0
  | x :: r => lf x + yJ r
def VH (k : Nat) (x : zL) : zL := ⟨mkT k, mkT (k + 1), mkT (k + 2), tq x.sums.length (k + 3), dvB (k + 3 + 2 * x.sums.length), mkS x.needs.length (k + 3 + 2 * x.sums.length + 1)⟩
def xE : Nat → List zL → List zL
  | _, [] => []
  | k, x :: r => VH k x :: xE (k + lf x) r
theorem lQ : ∀ (k : Nat) (cs : List zL), (xE k cs).length = cs.length
  | k, [] => rfl
  | k, c :: cs => by simp [xE, lQ _ cs]
theorem pj : ∀ a b : List zL, yJ (a ++ b) = yJ a + yJ b
  | [], b => by simp [yJ]
  | c :: a, b => by simp only [List.cons_append, yJ, pj a b]; omega
theorem lR : ∀ (k : Nat) (a b : List zL), xE k (a ++ b) = xE k a ++ xE (k + yJ a) b
  | k, [], b => by simp [xE, yJ]
  | k, c :: a, b => by
    simp only [List.cons_append, xE, yJ, lR _ a b]
    rw [show k + lf c + yJ a = k + (lf c + yJ a) by omega]
theorem Uw (x : zL) : lf x ≤ 4 + 2 * x.yh := by simp only [lf, zL.yh]; omega
theorem eg : ∀ cs : List zL, yJ cs ≤ 4 * cs.length + 2 * zL.ya cs
  | [] => by simp [yJ]
  | c :: cs => by
    have h1 := Uw c
    have h2 := eg cs
    simp only [yJ, zL.ya, List.length_cons]; omega
theorem bN (cs : List zL) (hl : cs.length ≤ 4194304) (hb : ∀ c ∈ cs, c.yh ≤ 4194304) (cap : Option Nat) (k : Nat) (hk : k + yJ cs ≤ 1073741824) : ∀ (rest pre : List zL), cs = pre ++ rest →
    EV Tryz.prog pol (.loop 38 26 1 [.sl 0 0 cs.length cap, .t (.int .i64 ((k + yJ pre : Nat) : Int)), .t (.int .i64 (pre.length : Int))] [.vs 6 (ocE (zL.zV (xE k pre)) ++ ocE (zL.zV rest))])
      = some (.loop (.exit 0) [.t (.int .i64 ((k + yJ cs : Nat) : Int))] [.vs 6 (ocE (zL.zV (xE k cs)))])
  | [], pre, hs => by
    have c : decide ((pre.length : Int) < (cs.length : Int)) = false := by simp [hs]
    have e : cs = pre := by simpa using hs
    have hA := yX (zL.zV (xE k pre))
    have hR := fun m => xy m (zL.zV (xE k pre))
    simp only [show ocE (zL.zV []) = [] from rfl, List.append_nil]
    refine zz Tryz.func38 rfl rfl ?_
    simp (disch := ((try simp only [LL]); omega)) only [↓GO, ↓DRW, GA, ren, zB, zd, refs, zb, cst, zl, zH, z7, E.load, E.store, zG, isC, bin, zI, zJ, una, z8, za, zh, zK, blt, fnV, asArg, ze, zn, zo, zj, zi, zg, zk, zr, z6, zD, zF, E.mkS, zc, unN, zM, zm, zy, zC, zf, zN, zq, GS, simprocAttr, yO, yP, qI, r9, rP, rO, w9, mkO, tD, tr, vd, qC, yZ, r7, r4, xu, oc, oTs, oT, xf, xf.rowTs, tA, isL, Bool.not_false, Bool.true_and, Bool.and_true, Bool.and_self, List.flatMap_append, List.map_append, List.set_cons_zero, List.set_cons_succ, GZ, c, hA, hR]
    rw [e]
  | x :: rest, pre, hs => by
    have c : decide ((pre.length : Int) < (cs.length : Int)) = true := by simp [hs]; omega
    have c0 : decide ((0 : Int) ≤ (pre.length : Int)) = true := by simp
    have c00 : (0 : Int) ≤ (pre.length : Int) := by omega
    have hlen : pre.length + rest.length + 1 ≤ cs.length := by rw [hs]; simp; omega
    have hcn : yJ cs = yJ pre + yJ (x :: rest) := by rw [hs, pj]
    have hbx := hb x (by rw [hs]; simp)
    have IH := bN cs hl hb cap k hk rest (pre ++ [x]) (by rw [hs]; simp)
    have e1 : xE k (pre ++ [x]) = xE k pre ++ [VH (k + yJ pre) x] := by rw [lR]; simp [xE]
    have e2 : yJ (pre ++ [x]) = yJ pre + lf x := by rw [pj]; simp [yJ]
    rw [e1, e2, Za, bq, show (pre ++ [x]).length = pre.length + 1 by simp] at IH
    simp only [yJ] at hcn
    have hAl : (ocE (zL.zV (xE k pre))).length = pre.length := by rw [qw, zL.zR, lQ]
    have hA := yX (zL.zV (xE k pre))
    have hR := fun m => xy m (zL.zV (xE k pre))
    have hB := yX (zL.zV rest)
    have hRB := fun m => xy m (zL.zV rest)
    rw [show ocE (zL.zV (x :: rest)) = x.enc.map oc :: ocE (zL.zV rest) from rfl]
    rw [show ocE (zL.zV [VH (k + yJ pre) x]) = [(VH (k + yJ pre) x).enc.map oc] from rfl] at IH
    have hg1 := fun y => qy (ocE (zL.zV (xE k pre))) (ocE (zL.zV rest)) y pre.length hAl
    have hs1 := fun y z => qx (ocE (zL.zV (xE k pre))) (ocE (zL.zV rest)) y z pre.length hAl
    clear hs e1 e2
    have hkb : k + yJ pre + lf x ≤ 1073741824 := by omega
    rw [show k + (yJ pre + lf x) = k + yJ pre + lf x by omega] at IH
    generalize k + yJ pre = kp at *
    obtain ⟨name, version, source, sums, dev, needs⟩ := x
    simp only [zL.yh] at hbx
    simp only [lf] at hkb IH
    rw [show kp + (4 + 2 * sums.length + needs.length) = kp + 3 + 2 * sums.length + 1 + needs.length by omega] at IH
    have hmt0 := rL kp (by omega)
    have hmt1 := rL (kp + 1) (by omega)
    have hmt2 := rL (kp + 2) (by omega)
    have hmm := Xv sums (by omega) none (kp + 3) (by omega) sums.length rfl
    have hms := jC needs (by omega) none (kp + 3 + 2 * sums.length + 1) (by omega) needs.length rfl
    have w0 : IntKind.i64.wrap ((kp : Int) + 1) = ((kp + 1 : Nat) : Int) := by rw [zx (by omega)]; omega
    have w1 : IntKind.i64.wrap (((kp + 1 : Nat) : Int) + 1) = ((kp + 2 : Nat) : Int) := by rw [zx (by omega)]; omega
    have w2 : IntKind.i64.wrap (((kp + 2 : Nat) : Int) + 1) = ((kp + 3 : Nat) : Int) := by rw [zx (by omega)]; omega
    have w3 : IntKind.i64.wrap ((pre.length : Int) + 1) = ((pre.length + 1 : Nat) : Int) := by rw [zx (by omega)]; omega
    have w4 : IntKind.i64.wrap (((kp + 3 + 2 * sums.length : Nat) : Int) + 1) = ((kp + 3 + 2 * sums.length + 1 : Nat) : Int) := by rw [zx (by omega)]; omega
    have e1 : (((kp + 3 + 2 * sums.length : Nat) : Int)).tmod 3 = (((kp + 3 + 2 * sums.length) % 3 : Nat) : Int) := (Int.ofNat_tmod _ 3).symm
    have hr3 : (kp + 3 + 2 * sums.length) % 3 < 3 := Nat.mod_lt _ (by omega)
    have hdv : ((((kp + 3 + 2 * sums.length) % 3 : Nat) : Int) == 0) = dvB (kp + 3 + 2 * sums.length) := rfl
    have hf1 := uV sums
    have hf2 := uV (tq sums.length (kp + 3))
    have hf3 := vF needs
    have hf4 := vF (mkS needs.length (kp + 3 + 2 * sums.length + 1))
    have hl1 := mu sums.length (kp + 3)
    have hl2 := vr needs.length (kp + 3 + 2 * sums.length + 1)
    simp only [VH, zL.enc, List.map_cons, List.map_nil, oc, List.append_assoc, List.cons_append, List.nil_append] at IH ⊢
    generalize tq sums.length (kp + 3) = mm at *
    generalize mkS needs.length (kp + 3 + 2 * sums.length + 1) = ms at *
    generalize mkT (kp + 2) = mt2 at *
    generalize mkT (kp + 1) = mt1 at *
    generalize mkT kp = mt0 at *
    generalize ocE (zL.zV (xE k pre)) = A at *
    generalize ocE (zL.zV rest) = B at *
    refine zz Tryz.func38 rfl rfl ?_
    simp (disch := ((try simp only [LL]); omega)) only [↓GO, ↓DRW, GA, ren, zB, zd, refs, zb, cst, zl, zH, z7, E.load, E.store, zG, isC, bin, zI, zJ, una, z8, za, zh, zK, blt, fnV, asArg, ze, zn, zo, zj, zi, zg, zk, zr, z6, zD, zF, E.mkS, zc, unN, zM, zm, zy, zC, zf, zN, zq, GS, simprocAttr, yO, yP, qI, r9, rP, rO, w9, mkO, tD, tr, vd, qC, yZ, r7, r4, xu, oc, oTs, oT, xf, xf.rowTs, tA, isL, Bool.not_false, Bool.true_and, Bool.and_true, Bool.and_self, List.flatMap_append, List.map_append, List.set_cons_zero, List.set_cons_succ, GZ, c, c0, c00, if_true, Int.toNat_natCast, hmt0, hmt1, hmt2, hmm, hms, hg1, hs1, hA, hR, hB, hRB, w0, w1, w2, w3, w4, e1, hdv, hf1, hf2, hf3, hf4, hl1, hl2, zP, zZ.zR, zL.zR, qw, xy, yX, IH, zY]
theorem Xw (cs : List zL) (hb : cs.length + zL.ya cs ≤ 4194304) (cap : Option Nat) (k : Nat) (hk : k + yJ cs ≤ 1073741824) (n : Nat) (hn : n = cs.length) :
    EV Tryz.prog pol (.callO false 38 [.sl 0 0 n cap, .t (.int .i64 (k : Int))] [.vs 6 (ocE (zL.zV cs))]) = some (.call (.t (.int .i64 ((k + yJ cs : Nat) : Int))) [.vs 6 (ocE (zL.zV (xE k cs)))]) := by
  subst hn
  have L := bN cs (by omega) (fun c hc => by have := zL.yp hc; omega) cap k hk cs [] rfl
  simp only [List.length_nil, Int.natCast_zero, xE, yJ, show ocE (zL.zV []) = [] from rfl, List.nil_append, Nat.add_zero] at L
  refine yK Tryz.func38 rfl (by kernel_rfl) ?_
  unfold Tryz.f38
  simp (disch := ((try simp only [LL]); omega)) only [↓GO, ↓DRW, GA, ren, zB, zd, refs, zb, cst, zl, zH, z7, E.load, E.store, zG, isC, bin, zI, zJ, una, z8, za, zh, zK, blt, fnV, asArg, ze, zn, zo, zj, zi, zg, zk, zr, z6, zD, zF, E.mkS, zc, unN, zM, zm, zy, zC, zf, zN, zq, GS, simprocAttr, yO, yP, qI, r9, rP, rO, w9, mkO, tD, tr, vd, qC, yZ, r7, r4, xu, oc, oTs, oT, xf, xf.rowTs, tA, isL, Bool.not_false, Bool.true_and, Bool.and_true, Bool.and_self, List.flatMap_append, List.map_append, List.set_cons_zero, List.set_cons_succ, GZ, L, xy, yX, zY]
theorem UL (top : List Str) (cs : List zL) (ht : top.length ≤ 4194304) (hb : cs.length + zL.ya cs ≤ 4194304) (n1 n2 : Nat) (h1 : n1 = top.length) (h2 : n2 = cs.length) (p1 p2 : Option Nat) (k : Nat) (hk : k + top.length + yJ cs ≤ 1073741824) :
    EV Tryz.prog pol (.callO false 15 [.agg [.sl 0 0 n1 p1, .sl 1 0 n2 p2], .t (.int .i64 (k : Int))] [.ts 1 (y6 top), .vs 6 (ocE (zL.zV cs))])
      = some (.call (.t (.int .i64 ((k + top.length + yJ cs : Nat) : Int))) [.ts 1 (y6 (mkS top.length k)), .vs 6 (ocE (zL.zV (xE (k + top.length) cs)))]) := by
  subst h1 h2
  have d1 := jC top (by omega) p1 k (by omega) top.length rfl
  have d2 := Xw cs hb p2 (k + top.length) (by omega) cs.length rfl
  refine yK Tryz.func15 rfl (by kernel_rfl) ?_
  unfold Tryz.f15
  simp (disch := ((try simp only [LL]); omega)) only [↓GO, ↓DRW, GA, ren, zB, zd, refs, zb, cst, zl, zH, z7, E.load, E.store, zG, isC, bin, zI, zJ, una, z8, za, zh, zK, blt, fnV, asArg, ze, zn, zo, zj, zi, zg, zk, zr, z6, zD, zF, E.mkS, zc, unN, zM, zm, zy, zC, zf, zN, zq, GS, simprocAttr, yO, yP, qI, r9, rP, rO, w9, mkO, tD, tr, vd, qC, yZ, r7, r4, xu, oc, oTs, oT, xf, xf.rowTs, tA, isL, Bool.not_false, Bool.true_and, Bool.and_true, Bool.and_self, List.flatMap_append, List.map_append, List.set_cons_zero, List.set_cons_succ, GZ, d1, d2, xy, yX, zY]
end Go.Proofs.YtmcephnfcciloaaGreatDoor
/- Marks in packs and graphs found again. Conditions: those of each lemma. -/
namespace Go.Proofs.YtmcephnfcciloaaGreatDoor
open E
set_option linter.unusedSimpArgs false
set_option linter.unusedVariables false
set_option maxRecDepth 100000
end Go.Proofs.YtmcephnfcciloaaGreatDoor
/- What the laws' own functions do over lists of Notice: sizes, copies, comparisons, marks. Conditions: those of each lemma. -/
namespace Go.Proofs.YtmcephnfcciloaaGreatDoor
open E
set_option linter.unusedSimpArgs false
set_option linter.unusedVariables false
set_option maxRecDepth 100000
theorem pY (cs : List zt) (hl : cs.length ≤ 9223372036854775807) (hc : ∀ c ∈ cs, mJ c) : ∀ (d i : Nat) (n : Int), cs.length - i = d → i ≤ cs.length → 0 ≤ n → n ≤ 1048576 →
    (0 ≤ n - (zt.ya (cs.drop i) : Int) → EV Tryz.prog pol (.loop 7 122 0 [.t (.list 3 (zt.zV cs)), .t (.int .i64 n), .t (.int .i64 (i : Int))] []) = some (.loop (.exit 0) [.t (.int .i64 (n - (zt.ya (cs.drop i) : Int))), .bad] [])) ∧
    (n - (zt.ya (cs.drop i) : Int) < 0 → ∃ v, EV Tryz.prog pol (.loop 7 122 0 [.t (.list 3 (zt.zV cs)), .t (.int .i64 n), .t (.int .i64 (i : Int))] []) = some (.loop .ret [v, .t (.int .i64 (-1))] []))
  | 0, i, n, hd, hi, h0, h1 => by
    have hi' : i = cs.length := by omega
    subst hi'
    have hb : zt.ya (cs.drop cs.length) = 0 := by simp [zt.ya]
    rw [hb]
    refine ⟨fun _ => ?_, fun h => by omega⟩
    refine zz Tryz.func7 rfl rfl ?_
    have c : decide (((cs.length : Nat) : Int) < ((cs.length : Nat) : Int)) = false := by simp
    simp only [↓GO, ↓DRW, GA, ren, zB, zd, refs, zb, cst, zl, zH, z7, E.load, E.store, zG, isC, bin, zI, zJ, una, z8, za, zh, zK, blt, fnV, asArg, ze, zn, zo, zj, zi, zg, zk, zr, z6, zD, zF, E.mkS, zc, unN, zM, zm, zy, zC, zf, zN, zq, GS, simprocAttr, zt.zR, c]
    simp
  | d + 1, i, n, hd, hi, h0, h1 => by
    have hlt : i < cs.length := by omega
    rw [zt.xi cs i hlt]
    have c : decide ((i : Int) < ((cs.length : Nat) : Int)) = true := by simp; omega
    have hcall := hc _ (List.getElem_mem hlt) n h0 h1
    have hget := zt.yR cs i hlt
    generalize hci : cs[i] = ci at hcall hget
    obtain ⟨name, range, text⟩ := ci
    simp only [zt.enc, List.map_cons, List.map_nil] at hcall hget
    generalize hbu : (zt.mk name range text).yh = bu at hcall
    have IH := pY cs hl hc d (i + 1) (n - (bu : Int)) (by omega) (by omega)
    have e1 : (i : Int) + 1 = ((i + 1 : Nat) : Int) := by omega
    by_cases hneg : n - (bu : Int) < 0
    · refine ⟨fun h => by omega, fun _ => ⟨.t (.int .i64 (-1)), ?_⟩⟩
      refine zz Tryz.func7 rfl rfl ?_
      have hle : left n bu = -1 := if_pos hneg
      rw [hle] at hcall
      simp (disch := omega) only [↓GO, ↓DRW, GA, ren, zB, zd, refs, zb, cst, zl, zH, z7, E.load, E.store, zG, isC, bin, zI, zJ, una, z8, za, zh, zK, blt, fnV, asArg, ze, zn, zo, zj, zi, zg, zk, zr, z6, zD, zF, E.mkS, zc, unN, zM, zm, zy, zC, zf, zN, zq, GS, simprocAttr, zt.zR, c, hget, zx, hcall]
    · have hle : left n bu = n - (bu : Int) := if_neg hneg
      rw [hle] at hcall
      have c2 : decide (n - (bu : Int) < 0) = false := by simpa using hneg
      obtain ⟨I1, I2⟩ := IH (by omega) (by omega)
      refine ⟨fun h => ?_, fun h => ?_⟩
      · refine zz Tryz.func7 rfl rfl ?_
        simp (disch := omega) only [↓GO, ↓DRW, GA, ren, zB, zd, refs, zb, cst, zl, zH, z7, E.load, E.store, zG, isC, bin, zI, zJ, una, z8, za, zh, zK, blt, fnV, asArg, ze, zn, zo, zj, zi, zg, zk, zr, z6, zD, zF, E.mkS, zc, unN, zM, zm, zy, zC, zf, zN, zq, GS, simprocAttr, zt.zR, c, hget, zx, hcall, c2, e1]
        rw [I1 (by omega), show n - (bu : Int) - (zt.ya (cs.drop (i + 1)) : Int) = n - ((bu + zt.ya (cs.drop (i + 1)) : Nat) : Int) by omega]
      · obtain ⟨v, hv⟩ := I2 (by omega)
        refine ⟨v, ?_⟩
        refine zz Tryz.func7 rfl rfl ?_
        simp (disch := omega) only [↓GO, ↓DRW, GA, ren, zB, zd, refs, zb, cst, zl, zH, z7, E.load, E.store, zG, isC, bin, zI, zJ, una, z8, za, zh, zK, blt, fnV, asArg, ze, zn, zo, zj, zi, zg, zk, zr, z6, zD, zF, E.mkS, zc, unN, zM, zm, zy, zC, zf, zN, zq, GS, simprocAttr, zt.zR, c, hget, zx, hcall, c2, e1]
        exact hv
theorem om (cs : List zt) (hl : cs.length ≤ 9223372036854775807) (hc : ∀ c ∈ cs, mJ c) (n : Int) (h0 : 0 ≤ n) (h1 : n ≤ 1048576) :
    zE (EV Tryz.prog pol) 7 [.t (.list 3 (zt.zV cs)), .t (.int .i64 n)] = some (.t (.int .i64 (left n (cs.length + zt.ya cs)))) := by
  apply zu
  refine zw rfl Tryz.func7 rfl (by kernel_rfl) ?_
  unfold Tryz.f7
  by_cases hneg : n - (cs.length : Int) < 0
  · have c2 : decide (n - (cs.length : Int) < 0) = true := by simpa using hneg
    simp (disch := omega) only [↓GO, ↓DRW, GA, ren, zB, zd, refs, zb, cst, zl, zH, z7, E.load, E.store, zG, isC, bin, zI, zJ, una, z8, za, zh, zK, blt, fnV, asArg, ze, zn, zo, zj, zi, zg, zk, zr, z6, zD, zF, E.mkS, zc, unN, zM, zm, zy, zC, zf, zN, zq, GS, simprocAttr, zt.zR, zx, c2]
    rw [left, if_pos (by omega)]
  · have c2 : decide (n - (cs.length : Int) < 0) = false := by simpa using hneg
    obtain ⟨I1, I2⟩ := pY cs hl hc cs.length 0 (n - (cs.length : Int)) (by omega) (by omega) (by omega) (by omega)
    simp only [List.drop_zero, Int.natCast_zero] at I1 I2
    by_cases hn2 : n - (cs.length : Int) - (zt.ya cs : Int) < 0
    · obtain ⟨v, hv⟩ := I2 hn2
      simp (disch := omega) only [↓GO, ↓DRW, GA, ren, zB, zd, refs, zb, cst, zl, zH, z7, E.load, E.store, zG, isC, bin, zI, zJ, una, z8, za, zh, zK, blt, fnV, asArg, ze, zn, zo, zj, zi, zg, zk, zr, z6, zD, zF, E.mkS, zc, unN, zM, zm, zy, zC, zf, zN, zq, GS, simprocAttr, zt.zR, zx, c2, hv]
      rw [left, if_pos (by omega)]
    · simp (disch := omega) only [↓GO, ↓DRW, GA, ren, zB, zd, refs, zb, cst, zl, zH, z7, E.load, E.store, zG, isC, bin, zI, zJ, una, z8, za, zh, zK, blt, fnV, asArg, ze, zn, zo, zj, zi, zg, zk, zr, z6, zD, zF, E.mkS, zc, unN, zM, zm, zy, zC, zf, zN, zq, GS, simprocAttr, zt.zR, zx, c2, I1 (by omega)]
      rw [left, if_neg (by omega), show n - (cs.length : Int) - (zt.ya cs : Int) = n - ((cs.length + zt.ya cs : Nat) : Int) by omega]
def td : List T := [.str [], .str [], .str []]
theorem tK (cs : List zt) (hl : cs.length ≤ 1048576) (hc : ∀ c ∈ cs, uF c) : ∀ (d i : Nat), cs.length - i = d → i ≤ cs.length →
    EV Tryz.prog pol (.loop 10 58 0 [.t (.list 3 (zt.zV cs)), .sl 0 0 cs.length (some cs.length), .t (.int .i64 (i : Int))] [.ts 3 (wo (zt.zV cs) td i)]) = some (.loop (.exit 0) [.sl 0 0 cs.length (some cs.length)] [.ts 3 (zt.zV cs)])
  | 0, i, hd, hi => by
    have hi' : i = cs.length := by omega
    subst hi'
    refine zz Tryz.func10 rfl rfl ?_
    have c : decide (((cs.length : Nat) : Int) < ((cs.length : Nat) : Int)) = false := by simp
    have hf : wo (zt.zV cs) td cs.length = zt.zV cs := by rw [← zt.zR cs]; exact pf _ _
    simp only [↓GO, ↓DRW, GA, ren, zB, zd, refs, zb, cst, zl, zH, z7, E.load, E.store, zG, isC, bin, zI, zJ, una, z8, za, zh, zK, blt, fnV, asArg, ze, zn, zo, zj, zi, zg, zk, zr, z6, zD, zF, E.mkS, zc, unN, zM, zm, zy, zC, zf, zN, zq, GS, simprocAttr, zt.zR, c, hf]
  | d + 1, i, hd, hi => by
    have hlt : i < cs.length := by omega
    have hlt' : i < (zt.zV cs).length := by rw [zt.zR]; exact hlt
    have c : decide ((i : Int) < ((cs.length : Nat) : Int)) = true := by simp; omega
    have c0 : decide ((0 : Int) ≤ (i : Int)) = true := by simp
    have IH := tK cs hl hc d (i + 1) (by omega) (by omega)
    have e1 : (i : Int) + 1 = ((i + 1 : Nat) : Int) := by omega
    have hg : (wo (zt.zV cs) td i)[i]? = some [.str [], .str [], .str []] := pe (zt.zV cs) td i hlt'
    have hs := pd (zt.zV cs) td i hlt'
    have hx : (zt.zV cs)[i] = cs[i].enc := by simp [zt.zV]
    rw [hx] at hs
    have hcall := hc _ (List.getElem_mem hlt)
    have hget := zt.yR cs i hlt
    generalize hci : cs[i] = ci at hcall hget hs
    obtain ⟨name, range, text⟩ := ci
    simp only [uF, zt.enc, List.map_cons, List.map_nil] at hcall hget hs
    refine zz Tryz.func10 rfl rfl ?_
    simp (disch := omega) only [↓GO, ↓DRW, GA, ren, zB, zd, refs, zb, cst, zl, zH, z7, E.load, E.store, zG, isC, bin, zI, zJ, una, z8, za, zh, zK, blt, fnV, asArg, ze, zn, zo, zj, zi, zg, zk, zr, z6, zD, zF, E.mkS, zc, unN, zM, zm, zy, zC, zf, zN, zq, GS, simprocAttr, zt.zR, c, c0, hget, zx, e1, hg, Int.toNat_natCast, hcall, hs]
    exact IH
theorem iw (cs : List zt) (hl : cs.length ≤ 1048576) (hc : ∀ c ∈ cs, uF c) : zE (EV Tryz.prog pol) 10 [.t (.list 3 (zt.zV cs))] = some (.t (.list 3 (zt.zV cs))) := by
  apply zu
  refine zw rfl Tryz.func10 rfl (by kernel_rfl) ?_
  unfold Tryz.f10
  have h1 : ¬ ((cs.length : Int) < 0) := by omega
  have h2 : ¬ (cs.length * 48 > 140737488355328) := by omega
  have h3 : ¬ (cs.length > 140737488355328) := by omega
  have hz : List.replicate cs.length [T.str [], .str [], .str []] = wo (zt.zV cs) td 0 := by rw [uW, zt.zR]; rfl
  have IH := tK cs hl hc cs.length 0 (by omega) (by omega)
  simp only [Int.natCast_zero] at IH
  have ht : (zt.zV cs).take cs.length = zt.zV cs := by rw [← zt.zR cs]; simp
  simp (disch := omega) only [↓GO, ↓DRW, GA, ren, zB, zd, refs, zb, cst, zl, zH, z7, E.load, E.store, zG, isC, bin, zI, zJ, una, z8, za, zh, zK, blt, fnV, asArg, ze, zn, zo, zj, zi, zg, zk, zr, z6, zD, zF, E.mkS, zc, unN, zM, zm, zy, zC, zf, zN, zq, GS, simprocAttr, zt.zR, Int.toNat_natCast, h1, h2, h3, hz, IH, ne_eq, not_true_eq_false, ht]
theorem o6 (cs : List zt) (hl : cs.length ≤ 1048576) (hc : ∀ c ∈ cs, s9 c) : ∀ (d i : Nat), cs.length - i = d → i ≤ cs.length →
    EV Tryz.prog pol (.loop 14 58 0 [.t (.list 3 (zt.zV cs)), .t (.list 3 (zt.zV cs)), .t (.int .i64 (i : Int))] []) = some (.loop (.exit 0) [.bad] [])
  | 0, i, hd, hi => by
    have hi' : i = cs.length := by omega
    subst hi'
    refine zz Tryz.func14 rfl rfl ?_
    have c : decide (((cs.length : Nat) : Int) < ((cs.length : Nat) : Int)) = false := by simp
    simp only [↓GO, ↓DRW, GA, ren, zB, zd, refs, zb, cst, zl, zH, z7, E.load, E.store, zG, isC, bin, zI, zJ, una, z8, za, zh, zK, blt, fnV, asArg, ze, zn, zo, zj, zi, zg, zk, zr, z6, zD, zF, E.mkS, zc, unN, zM, zm, zy, zC, zf, zN, zq, GS, simprocAttr, zt.zR, c]
  | d + 1, i, hd, hi => by
    have hlt : i < cs.length := by omega
    have c : decide ((i : Int) < ((cs.length : Nat) : Int)) = true := by simp; omega
    have IH := o6 cs hl hc d (i + 1) (by omega) (by omega)
    have e1 : (i : Int) + 1 = ((i + 1 : Nat) : Int) := by omega
    have hcall := hc _ (List.getElem_mem hlt)
    have hget := zt.yR cs i hlt
    generalize hci : cs[i] = ci at hcall hget
    obtain ⟨name, range, text⟩ := ci
    simp only [s9, zt.enc, List.map_cons, List.map_nil] at hcall hget
    refine zz Tryz.func14 rfl rfl ?_
    simp (disch := omega) only [↓GO, ↓DRW, GA, ren, zB, zd, refs, zb, cst, zl, zH, z7, E.load, E.store, zG, isC, bin, zI, zJ, una, z8, za, zh, zK, blt, fnV, asArg, ze, zn, zo, zj, zi, zg, zk, zr, z6, zD, zF, E.mkS, zc, unN, zM, zm, zy, zC, zf, zN, zq, GS, simprocAttr, zt.zR, c, hget, zx, e1, hcall]
    exact IH
theorem iy (cs : List zt) (hl : cs.length ≤ 1048576) (hc : ∀ c ∈ cs, s9 c) : zE (EV Tryz.prog pol) 14 [.t (.list 3 (zt.zV cs)), .t (.list 3 (zt.zV cs))] = some (.t (.bool true)) := by
  apply zu
  refine zw rfl Tryz.func14 rfl (by kernel_rfl) ?_
  unfold Tryz.f14
  have IH := o6 cs hl hc cs.length 0 (by omega) (by omega)
  simp only [Int.natCast_zero] at IH
  simp only [↓GO, ↓DRW, GA, ren, zB, zd, refs, zb, cst, zl, zH, z7, E.load, E.store, zG, isC, bin, zI, zJ, una, z8, za, zh, zK, blt, fnV, asArg, ze, zn, zo, zj, zi, zg, zk, zr, z6, zD, zF, E.mkS, zc, unN, zM, zm, zy, zC, zf, zN, zq, GS, simprocAttr, zt.zR, IH, bne_self_eq_false]
end Go.Proofs.YtmcephnfcciloaaGreatDoor
/- Notices laid anew, marked. Conditions: those of each lemma. -/
namespace Go.Proofs.YtmcephnfcciloaaGreatDoor
open E
set_option linter.unusedSimpArgs false
set_option linter.unusedVariables false
set_option maxRecDepth 100000
theorem UD (cs : List zt) (hl : cs.length ≤ 1048576) (hc : ∀ c ∈ cs, uF c) : EV Tryz.prog pol (.callO false 10 [.t (.list 3 (zt.zV cs))] []) = some (.call (.sl 0 0 cs.length (some cs.length)) [.ts 3 (zt.zV cs)]) := by
  refine yK Tryz.func10 rfl (by kernel_rfl) ?_
  unfold Tryz.f10
  have h1 : ¬ ((cs.length : Int) < 0) := by omega
  have h2 : ¬ (cs.length * 48 > 140737488355328) := by omega
  have h3 : ¬ (cs.length > 140737488355328) := by omega
  have hz : List.replicate cs.length [T.str [], .str [], .str []] = wo (zt.zV cs) td 0 := by rw [uW, zt.zR]; rfl
  have IH := tK cs hl hc cs.length 0 (by omega) (by omega)
  simp only [Int.natCast_zero] at IH
  simp (disch := omega) only [E.mkS, ↓GO, ↓DRW, GA, ren, zB, zd, refs, zb, cst, zl, zH, z7, E.load, E.store, zG, isC, bin, zI, zJ, una, z8, za, zh, zK, blt, fnV, asArg, ze, zn, zo, zj, zi, zg, zk, zr, z6, zD, zF, E.mkS, zc, unN, zM, zm, zy, zC, zf, zN, zq, GS, simprocAttr, zt.zR, Int.toNat_natCast, h1, h2, h3, hz, IH, ne_eq, not_true_eq_false]
def tB : Nat → Nat → List zt
  | 0, _ => []
  | n + 1, k => ⟨mkT k, mkT (k + 1), mkT (k + 2)⟩ :: tB n (k + 3)
theorem gV : ∀ n k, (tB n k).length = n
  | 0, _ => rfl
  | n + 1, k => by rw [tB, List.length_cons, gV n (k + 3)]
theorem lS : ∀ n k, tB (n + 1) k = tB n k ++ [⟨mkT (k + 3 * n), mkT (k + 3 * n + 1), mkT (k + 3 * n + 2)⟩]
  | 0, k => rfl
  | n + 1, k => by
    rw [tB, lS n (k + 3), tB, List.cons_append, show k + 3 + 3 * n = k + 3 * (n + 1) by omega]
theorem ff (cs : List zt) (hl : cs.length ≤ 4194304) (cap : Option Nat) (k : Nat) (hk : k ≤ 1073741824) : ∀ (rest pre : List zt), cs = pre ++ rest →
    EV Tryz.prog pol (.loop 16 26 1 [.sl 0 0 cs.length cap, .t (.int .i64 ((k + 3 * pre.length : Nat) : Int)), .t (.int .i64 (pre.length : Int))] [.ts 3 (zt.zV (tB pre.length k) ++ zt.zV rest)])
      = some (.loop (.exit 0) [.t (.int .i64 ((k + 3 * cs.length : Nat) : Int))] [.ts 3 (zt.zV (tB cs.length k))])
  | [], pre, hs => by
    have c : decide ((pre.length : Int) < (cs.length : Int)) = false := by simp [hs]
    have e : cs = pre := by simpa using hs
    simp only [show zt.zV [] = [] from rfl, List.append_nil]
    refine zz Tryz.func16 rfl rfl ?_
    simp (disch := ((try simp only [LL]); omega)) only [↓GO, ↓DRW, GA, ren, zB, zd, refs, zb, cst, zl, zH, z7, E.load, E.store, zG, isC, bin, zI, zJ, una, z8, za, zh, zK, blt, fnV, asArg, ze, zn, zo, zj, zi, zg, zk, zr, z6, zD, zF, E.mkS, zc, unN, zM, zm, zy, zC, zf, zN, zq, GS, simprocAttr, GZ, c]
    rw [e]
  | x :: rest, pre, hs => by
    have c : decide ((pre.length : Int) < (cs.length : Int)) = true := by simp [hs]; omega
    have c0 : decide ((0 : Int) ≤ (pre.length : Int)) = true := by simp
    have c00 : (0 : Int) ≤ (pre.length : Int) := by omega
    have hlen : pre.length + rest.length + 1 ≤ cs.length := by rw [hs]; simp; omega
    have hm := rL (k + 3 * pre.length) (by omega)
    have hm2 := rL (k + 3 * pre.length + 1) (by omega)
    have hm3 := rL (k + 3 * pre.length + 2) (by omega)
    have IH := ff cs hl cap k hk rest (pre ++ [x]) (by rw [hs]; simp)
    rw [show (pre ++ [x]).length = pre.length + 1 by simp, lS, show zt.zV (tB pre.length k ++ [⟨mkT (k + 3 * pre.length), mkT (k + 3 * pre.length + 1), mkT (k + 3 * pre.length + 2)⟩]) = zt.zV (tB pre.length k) ++ [[.str (mkT (k + 3 * pre.length)), .str (mkT (k + 3 * pre.length + 1)), .str (mkT (k + 3 * pre.length + 2))]] by simp [zt.zV, zt.enc], List.append_assoc, List.cons_append, List.nil_append] at IH
    rw [show k + 3 * (pre.length + 1) = k + 3 * pre.length + 3 by omega] at IH
    have hAl : (zt.zV (tB pre.length k)).length = pre.length := by rw [zt.zR, gV]
    rw [show zt.zV (x :: rest) = [.str x.name, .str x.range, .str x.text] :: zt.zV rest from rfl]
    have hg1 := fun y => qy (zt.zV (tB pre.length k)) (zt.zV rest) y pre.length hAl
    have hs1 := fun y z => qx (zt.zV (tB pre.length k)) (zt.zV rest) y z pre.length hAl
    clear hs
    generalize zt.zV (tB pre.length k) = A at *
    generalize mkT (k + 3 * pre.length + 2) = mt3 at *
    generalize mkT (k + 3 * pre.length + 1) = mt2 at *
    generalize mkT (k + 3 * pre.length) = mt at *
    have hkp : k + 3 * pre.length ≤ 1090519040 := by omega
    generalize k + 3 * pre.length = kp at *
    have w : IntKind.i64.wrap ((kp : Int) + 1) = ((kp + 1 : Nat) : Int) := by rw [zx (by omega)]; omega
    have w1 : IntKind.i64.wrap (((kp + 1 : Nat) : Int) + 1) = ((kp + 2 : Nat) : Int) := by rw [zx (by omega)]; omega
    have w3 : IntKind.i64.wrap (((kp + 2 : Nat) : Int) + 1) = ((kp + 3 : Nat) : Int) := by rw [zx (by omega)]; omega
    have w2 : IntKind.i64.wrap ((pre.length : Int) + 1) = ((pre.length + 1 : Nat) : Int) := by rw [zx (by omega)]; omega
    refine zz Tryz.func16 rfl rfl ?_
    simp (disch := ((try simp only [LL]); omega)) only [↓GO, ↓DRW, GA, ren, zB, zd, refs, zb, cst, zl, zH, z7, E.load, E.store, zG, isC, bin, zI, zJ, una, z8, za, zh, zK, blt, fnV, asArg, ze, zn, zo, zj, zi, zg, zk, zr, z6, zD, zF, E.mkS, zc, unN, zM, zm, zy, zC, zf, zN, zq, GS, simprocAttr, GZ, c, c0, c00, if_true, Int.toNat_natCast, hm, hm2, hm3, hg1, hs1, w, w1, w2, w3, IH]
theorem Xx (cs : List zt) (hl : cs.length ≤ 4194304) (cap : Option Nat) (k : Nat) (hk : k ≤ 1073741824) (n : Nat) (hn : n = cs.length) :
    EV Tryz.prog pol (.callO false 16 [.sl 0 0 n cap, .t (.int .i64 (k : Int))] [.ts 3 (zt.zV cs)]) = some (.call (.t (.int .i64 ((k + 3 * cs.length : Nat) : Int))) [.ts 3 (zt.zV (tB cs.length k))]) := by
  subst hn
  have L := ff cs hl cap k hk cs [] rfl
  simp only [List.length_nil, Int.natCast_zero, tB, show zt.zV [] = [] from rfl, List.nil_append, Nat.mul_zero, Nat.add_zero] at L
  refine yK Tryz.func16 rfl (by kernel_rfl) ?_
  unfold Tryz.f16
  simp (disch := ((try simp only [LL]); omega)) only [↓GO, ↓DRW, GA, ren, zB, zd, refs, zb, cst, zl, zH, z7, E.load, E.store, zG, isC, bin, zI, zJ, una, z8, za, zh, zK, blt, fnV, asArg, ze, zn, zo, zj, zi, zg, zk, zr, z6, zD, zF, E.mkS, zc, unN, zM, zm, zy, zC, zf, zN, zq, GS, simprocAttr, GZ, L]
end Go.Proofs.YtmcephnfcciloaaGreatDoor

/- Joined: K29 K21 K22 K23 I3 K31 K30 B12 W11. Conditions: those of each lemma. -/
import Derived.Test.YtijninlbpifonaaGreatDoorZL
import Derived.Test.YtijninlbpifonaaGreatDoorZK
import Derived.Test.YtijninlbpifonaaGreatDoorZJ
set_option linter.unusedVariables false
set_option linter.unusedSimpArgs false
namespace Go.Proofs.YtijninlbpifonaaGreatDoor
open E
set_option linter.unusedSimpArgs false
set_option linter.unusedVariables false
set_option maxRecDepth 100000
theorem Ro {l : List Str} (hl : ∀ s ∈ l, s.length ≤ 1048700) : (l.filter isV).all vok = true := by
 rw [List.all_eq_true]
 intro s hs
 obtain ⟨h1, h2⟩ := List.mem_filter.1 hs
 unfold vok
 rw [h2]
 simpa using hl s h1
theorem uB : ∀ (l out : List Str), (yK out l).length ≤ out.length + l.length
 | [], out => by simp [yK]
 | s :: r, out => by
  rw [yK]
  have h := uB r (cond (isV s) (tO out s) out)
  have h2 : (cond (isV s) (tO out s) out).length ≤ out.length + 1 := by
   cases isV s with
   | false => simp
   | true =>
    rw [cond_true]
    unfold tO
    cases Yp out s with
    | true => simp
    | false =>
     have := iL out s
     simp only [cond_false, List.length_append, List.length_take, List.length_cons, List.length_drop]; omega
  simp only [List.length_cons]; omega
theorem TH (l : List Str) (hl : l.length ≤ 1048576) (hs : ∀ s ∈ l, s.length ≤ 1048700) : ∀ (rest pre : List Str) (acc : List Str) (m : Nat) (cap : Option Nat), l = pre ++ rest → m = acc.length → m + rest.length ≤ 1073741824 → ∃ cap',
 EV Tryz.prog wu (.loop 96 58 0 [.sl 0 0 m cap, .t (.list 1 (strs l)), .t (.int .i64 (l.length : Int)), .t (.int .i64 (pre.length : Int))] [.ts 1 (strs acc)])
  = some (.loop (.exit 0) [.sl 0 0 (m + (rest.filter isV).length) cap'] [.ts 1 (strs (acc ++ rest.filter isV))])
 | [], pre, acc, m, cap, h, hm, hmM => by
  have c : decide ((pre.length : Int) < (l.length : Int)) = false := by simp [h]
  refine ⟨cap, ?_⟩
  simp only [List.filter_nil, List.append_nil, List.length_nil, Nat.add_zero]
  refine zD Tryz.func96 rfl rfl ?_
  simp (disch := ((try simp only [LL]); omega)) only [↓GO, ↓xG, GA, ren, zG, zd, refs, zb, cst, zl, zM, z7, E.load, E.store, zL, isC, bin, zN, zO, una, z8, za, zh, zP, blt, fnV, asArg, ze, zn, zo, zj, zm, zg, zk, zu, z6, zK, zJ, E.mkS, zc, unN, zQ, zi, zw, zq, zC, zI, zf, zR, zr, GS2, simprocAttr, GZ, c, y6]
 | s :: rest, pre, acc, m, cap, h, hm, hmM => by
  have c : decide ((pre.length : Int) < (l.length : Int)) = true := by simp [h]; omega
  have hget : (strs l)[pre.length]? = some [.str s] := wV (by rw [h]; simp)
  have hlen : pre.length + rest.length + 1 ≤ l.length := by rw [h]; simp; omega
  have d1 := mP (ry s (hs s (by rw [h]; simp)))
  have hsl : (strs acc).length = m := by rw [zH, hm]
  simp only [List.length_cons] at hmM
  rw [List.filter_cons]
  cases q : isV s with
  | true =>
   rw [q] at d1
   obtain ⟨cap', IH⟩ := TH l hl hs rest (pre ++ [s]) (acc ++ [s]) (m + 1) none (by rw [h]; simp) (by simp [hm]) (by omega)
   rw [show ((pre ++ [s]).length : Int) = (pre.length : Int) + 1 by simp] at IH
   rw [show strs (acc ++ [s]) = strs acc ++ [[.str s]] by simp [strs]] at IH
   refine ⟨cap', ?_⟩
   simp only [if_true, List.length_cons]
   rw [show m + ((rest.filter isV).length + 1) = m + 1 + (rest.filter isV).length by omega, show acc ++ s :: rest.filter isV = (acc ++ [s]) ++ rest.filter isV by simp]
   clear h hs
   generalize (acc ++ [s]) ++ rest.filter isV = Z at *
   refine zD Tryz.func96 rfl rfl ?_
   simp (disch := ((try simp only [LL]); omega)) only [↓GO, ↓xG, GA, ren, zG, zd, refs, zb, cst, zl, zM, z7, E.load, E.store, zL, isC, bin, zN, zO, una, z8, za, zh, zP, blt, fnV, asArg, ze, zn, zo, zj, zm, zg, zk, zu, z6, zK, zJ, E.mkS, zc, unN, zQ, zi, zw, zq, zC, zI, zf, zR, zr, GS2, simprocAttr, GZ, c, hget, d1, zB, hsl, y6, IH, wk]
  | false =>
   rw [q] at d1
   obtain ⟨cap', IH⟩ := TH l hl hs rest (pre ++ [s]) acc m cap (by rw [h]; simp) hm (by omega)
   rw [show ((pre ++ [s]).length : Int) = (pre.length : Int) + 1 by simp] at IH
   refine ⟨cap', ?_⟩
   simp only [Bool.false_eq_true, if_false]
   clear h hs
   generalize acc ++ rest.filter isV = Z at *
   refine zD Tryz.func96 rfl rfl ?_
   simp (disch := ((try simp only [LL]); omega)) only [↓GO, ↓xG, GA, ren, zG, zd, refs, zb, cst, zl, zM, z7, E.load, E.store, zL, isC, bin, zN, zO, una, z8, za, zh, zP, blt, fnV, asArg, ze, zn, zo, zj, zm, zg, zk, zu, z6, zK, zJ, E.mkS, zc, unN, zQ, zi, zw, zq, zC, zI, zf, zR, zr, GS2, simprocAttr, GZ, c, hget, d1, zB, y6, IH]
theorem RY (l : List Str) (hl : l.length ≤ 1048576) (hs : ∀ s ∈ l, s.length ≤ 1048700) : zE (EV Tryz.prog wu) 96 [.t (.list 1 (strs l))] = some (.t (.list 1 (strs (yK [] l)))) := by
 obtain ⟨cap, L⟩ := TH l hl hs l [] [] 0 (some 0) rfl rfl (by omega)
 have hk := Ro hs
 have hfl : (l.filter isV).length ≤ 1048576 := Nat.le_trans (List.length_filter_le _ _) hl
 have d1 := R6 (l.filter isV) hk (by omega) (l.filter isV).length rfl cap
 have hsl := pH (l.filter isV) hk
 have d2 := mO (QE (wa (l.filter isV) hk) (by omega) (l.filter isV).length hsl.symm cap)
 have hcl := ql (wa (l.filter isV) hk)
 have hrl := o6 (wa (l.filter isV) hk)
 have ht : (strs (tU (wa (l.filter isV) hk))).take (Lib.compact (wa (l.filter isV) hk)).length = strs (Lib.compact (wa (l.filter isV) hk)) := by
  unfold tU strs
  rw [← List.map_take, List.take_left]
 have e : Lib.compact (wa (l.filter isV) hk) = yK [] l := by
  rw [Xi]
  exact YO l _ (cL _ hk) (YP _ hk)
 rw [e] at d2 ht hcl
 simp only [List.length_nil, Int.natCast_zero, Nat.zero_add, List.nil_append, show strs [] = [] from rfl] at L
 rw [hsl] at hcl hrl
 generalize tU (wa (l.filter isV) hk) = C at *
 generalize wa (l.filter isV) hk = B at *
 generalize yK [] l = R at *
 generalize l.filter isV = A at *
 have hCl : (strs C).length = A.length := by rw [zH, hrl]
 apply zz
 refine zA rfl Tryz.func96 rfl (by kernel_rfl) ?_
 unfold Tryz.f96
 simp (disch := ((try simp only [LL]); omega)) only [↓GO, ↓xG, GA, ren, zG, zd, refs, zb, cst, zl, zM, z7, E.load, E.store, zL, isC, bin, zN, zO, una, z8, za, zh, zP, blt, fnV, asArg, ze, zn, zo, zj, zm, zg, zk, zu, z6, zK, zJ, E.mkS, zc, unN, zQ, zi, zw, zq, zC, zI, zf, zR, zr, GS2, simprocAttr, GZ, L, d1, d2, ht, hCl, zH, List.drop_zero, y6]
/-- where a version goes -/
theorem Tc (out : List Str) (hol : out.length ≤ 1048576) (ho : ∀ s ∈ out, s.length ≤ 1048700) (s : Str) (hsl : s.length ≤ 1048700) (t0 t4 : T) (m : Nat) (hm : m = out.length) (cap : Option Nat) : ∀ (rest pre : List Str), out = pre ++ rest →
 EV Tryz.prog wu (.loop 91 29852 0 [.t t0, .sl 0 0 m cap, .t t4, .ptr 1 0 0, .t (.int .i64 (pre.length : Int))] [.ts 1 (strs out), .vs 4 [(zx s).1.enc.map .t]])
  = some (.loop (.exit 2) [.t t0, .sl 0 0 m cap, .t t4, .t (.int .i64 ((pre.length + xt rest s : Nat) : Int))] [.ts 1 (strs out)])
 | [], pre, h => by
  have c : decide ((pre.length : Int) < (m : Int)) = false := by simp [hm, h]
  rw [show xt [] s = 0 from rfl, Nat.add_zero]
  generalize (zx s).1 = v
  simp only [Ver.enc, List.map_cons, List.map_nil]
  refine zD Tryz.func91 rfl rfl ?_
  simp (disch := ((try simp only [LL]); omega)) only [↓GO, ↓xG, GA, ren, zG, zd, refs, zb, cst, zl, zM, z7, E.load, E.store, zL, isC, bin, zN, zO, una, z8, za, zh, zP, blt, fnV, asArg, ze, zn, zo, zj, zm, zg, zk, zu, z6, zK, zJ, E.mkS, zc, unN, zQ, zi, zw, zq, zC, zI, zf, zR, zr, GS2, simprocAttr, GZ, c, y6]
 | x :: rest, pre, h => by
  have c : decide ((pre.length : Int) < (m : Int)) = true := by simp [hm, h]; omega
  have c0 : decide ((0 : Int) ≤ (pre.length : Int)) = true := by simp
  have hget : (strs out)[pre.length]? = some [.str x] := wV (by rw [h]; simp)
  have hlen : pre.length + rest.length + 1 ≤ out.length := by rw [h]; simp; omega
  have hx := ho x (by rw [h]; simp)
  have d1 := mP (tV x hx)
  have d2 := mP (lQ (zx x).1 (zx s).1 (yO x hx).1 (yO s hsl).1)
  have IH := Tc out hol ho s hsl t0 t4 m hm cap rest (pre ++ [x]) (by rw [h]; simp)
  rw [show ((pre ++ [x]).length : Int) = (pre.length : Int) + 1 by simp, show (pre ++ [x]).length + xt rest s = pre.length + (xt rest s + 1) by simp; omega] at IH
  rw [xt, show xF x s = uz (zx x).1 (zx s).1 from rfl]
  unfold rvT at d1
  generalize uz (zx x).1 (zx s).1 = n at *
  generalize (zx x).2 = okx at *
  generalize (zx x).1 = vx at *
  generalize (zx s).1 = v at *
  clear h ho
  simp only [Ver.enc, List.map_cons, List.map_nil] at d1 d2 IH ⊢
  cases q : decide (n ≥ 0) with
  | true =>
   simp only [cond_true, Nat.add_zero]
   refine zD Tryz.func91 rfl rfl ?_
   simp (disch := ((try simp only [LL]); omega)) only [↓GO, ↓xG, GA, ren, zG, zd, refs, zb, cst, zl, zM, z7, E.load, E.store, zL, isC, bin, zN, zO, una, z8, za, zh, zP, blt, fnV, asArg, ze, zn, zo, zj, zm, zg, zk, zu, z6, zK, zJ, E.mkS, zc, unN, zQ, zi, zw, zq, zC, zI, zf, zR, zr, GS2, simprocAttr, GZ, c, c0, hget, d1, d2, q, y6]
  | false =>
   simp only [cond_false]
   refine zD Tryz.func91 rfl rfl ?_
   simp (disch := ((try simp only [LL]); omega)) only [↓GO, ↓xG, GA, ren, zG, zd, refs, zb, cst, zl, zM, z7, E.load, E.store, zL, isC, bin, zN, zO, una, z8, za, zh, zP, blt, fnV, asArg, ze, zn, zo, zj, zm, zg, zk, zu, z6, zK, zJ, E.mkS, zc, unN, zQ, zi, zw, zq, zC, zI, zf, zR, zr, GS2, simprocAttr, GZ, c, c0, hget, d1, d2, q, zB, y6, IH]
theorem Vw {out : List Str} {s : Str} (h : out[xt out s]? = some s) : tO out s = out := by
 unfold tO Yp
 rw [h]; simp
theorem ZT {out : List Str} {s : Str} (h : out[xt out s]? ≠ some s) : tO out s = out.take (xt out s) ++ s :: out.drop (xt out s) := by
 unfold tO Yp
 have : (out[xt out s]? == some s) = false := by simpa using h
 rw [this]; rfl
theorem Yw (l : List Str) (hl : l.length ≤ 1048576) (hs : ∀ s ∈ l, s.length ≤ 1048700) : ∀ (rest pre : List Str) (out : List Str) (m : Nat) (cap : Option Nat), l = pre ++ rest → m = out.length → m + rest.length ≤ 1048576 → (∀ s ∈ out, s.length ≤ 1048700) → ∃ cap',
 EV Tryz.prog wu (.loop 91 58 0 [.t (.list 1 (strs l)), .sl 0 0 m cap, .t (.int .i64 (pre.length : Int))] [.ts 1 (strs out)])
  = some (.loop (.exit 0) [.sl 0 0 (yK out rest).length cap'] [.ts 1 (strs (yK out rest))])
 | [], pre, out, m, cap, h, hm, hmM, ho => by
  have c : decide ((pre.length : Int) < (l.length : Int)) = false := by simp [h]
  refine ⟨cap, ?_⟩
  rw [yK, ← hm]
  refine zD Tryz.func91 rfl rfl ?_
  simp (disch := ((try simp only [LL]); omega)) only [↓GO, ↓xG, GA, ren, zG, zd, refs, zb, cst, zl, zM, z7, E.load, E.store, zL, isC, bin, zN, zO, una, z8, za, zh, zP, blt, fnV, asArg, ze, zn, zo, zj, zm, zg, zk, zu, z6, zK, zJ, E.mkS, zc, unN, zQ, zi, zw, zq, zC, zI, zf, zR, zr, GS2, simprocAttr, GZ, c, zH, y6]
 | s :: rest, pre, out, m, cap, h, hm, hmM, ho => by
  have c : decide ((pre.length : Int) < (l.length : Int)) = true := by simp [h]; omega
  have hget : (strs l)[pre.length]? = some [.str s] := wV (by rw [h]; simp)
  have hlen : pre.length + rest.length + 1 ≤ l.length := by rw [h]; simp; omega
  have hsb := hs s (by rw [h]; simp)
  have d1 := mP (tV s hsb)
  unfold rvT at d1
  simp only [List.length_cons] at hmM
  rw [yK]
  cases q : isV s with
  | false =>
   have q' : (zx s).2 = false := q
   rw [q'] at d1
   obtain ⟨cap', IH⟩ := Yw l hl hs rest (pre ++ [s]) out m cap (by rw [h]; simp) hm (by omega) ho
   rw [show ((pre ++ [s]).length : Int) = (pre.length : Int) + 1 by simp] at IH
   refine ⟨cap', ?_⟩
   rw [cond_false]
   clear h hs
   generalize yK out rest = Z at *
   generalize (zx s).1 = v at *
   simp only [Ver.enc, List.map_cons, List.map_nil] at d1
   refine zD Tryz.func91 rfl rfl ?_
   simp (disch := ((try simp only [LL]); omega)) only [↓GO, ↓xG, GA, ren, zG, zd, refs, zb, cst, zl, zM, z7, E.load, E.store, zL, isC, bin, zN, zO, una, z8, za, zh, zP, blt, fnV, asArg, ze, zn, zo, zj, zm, zg, zk, zu, z6, zK, zJ, E.mkS, zc, unN, zQ, zi, zw, zq, zC, zI, zf, zR, zr, GS2, simprocAttr, GZ, c, hget, d1, zH, zB, y6, IH]
  | true =>
   have q' : (zx s).2 = true := q
   rw [q'] at d1
   have L := Tc out (by omega) ho s hsb (.list 1 (strs l)) (.int .i64 (pre.length : Int)) m hm cap out [] rfl
   simp only [List.length_nil, Int.natCast_zero, Nat.zero_add] at L
   have hp := iL out s
   rw [← hm] at hp
   have c0 : decide ((0 : Int) ≤ ((xt out s : Nat) : Int)) = true := by simp
   have hsl : (strs out).length = m := by rw [zH, hm]
   rw [cond_true]
   by_cases hx : out[xt out s]? = some s
   · have hgx := wV hx
     have hlt : xt out s < m := by rw [hm]; exact (List.getElem?_eq_some_iff.1 hx).1
     have c1 : decide (((xt out s : Nat) : Int) < (m : Int)) = true := by simpa using hlt
     rw [Vw hx]
     obtain ⟨cap', IH⟩ := Yw l hl hs rest (pre ++ [s]) out m cap (by rw [h]; simp) hm (by omega) ho
     rw [show ((pre ++ [s]).length : Int) = (pre.length : Int) + 1 by simp] at IH
     refine ⟨cap', ?_⟩
     clear h hs ho hx
     generalize yK out rest = Z at *
     generalize (zx s).1 = v at *
     generalize xt out s = p at *
     simp only [Ver.enc, List.map_cons, List.map_nil] at d1 L
     refine zD Tryz.func91 rfl rfl ?_
     simp (disch := ((try simp only [LL]); omega)) only [↓GO, ↓xG, GA, ren, zG, zd, refs, zb, cst, zl, zM, z7, E.load, E.store, zL, isC, bin, zN, zO, una, z8, za, zh, zP, blt, fnV, asArg, ze, zn, zo, zj, zm, zg, zk, zu, z6, zK, zJ, E.mkS, zc, unN, zQ, zi, zw, zq, zC, zI, zf, zR, zr, GS2, simprocAttr, GZ, c, c0, c1, hget, hgx, d1, L, zH, zB, beq_self_eq_true, y6, IH]
   · have e : strs (tO out s) = ((strs out).take (xt out s) ++ [[.str s]]) ++ (strs out).drop (xt out s) := by rw [ZT hx]; simp [strs]
     have hil : (tO out s).length = m + 1 := by
      rw [ZT hx]
      simp only [List.length_append, List.length_take, List.length_cons, List.length_drop]; omega
     have hA1 : ((strs out).take (xt out s)).length = xt out s := by rw [List.length_take, hsl]; omega
     have hB0 : ((strs out).drop (xt out s)).take (m - xt out s) = (strs out).drop (xt out s) := List.take_of_length_le (by rw [List.length_drop, hsl]; omega)
     have hB1 : ((strs out).drop (xt out s)).length = m - xt out s := by rw [List.length_drop, hsl]
     have hE : xt out s + 1 + (m - xt out s) = m + 1 := by omega
     obtain ⟨cap', IH⟩ := Yw l hl hs rest (pre ++ [s]) (tO out s) (m + 1) none (by rw [h]; simp) hil.symm (by omega) (fun y hy => by
      rcases (sA out s y).1 hy with hy | rfl
      · exact ho y hy
      · exact hsb)
     rw [show ((pre ++ [s]).length : Int) = (pre.length : Int) + 1 by simp, e] at IH
     refine ⟨cap', ?_⟩
     generalize yK (tO out s) rest = Z at *
     generalize (zx s).1 = v at *
     cases hy : out[xt out s]? with
     | none =>
      have hge : m ≤ xt out s := by rw [hm]; exact List.getElem?_eq_none_iff.1 hy
      have c1 : decide (((xt out s : Nat) : Int) < (m : Int)) = false := by simpa using hge
      clear h hs ho hx hy e hil
      generalize xt out s = p at *
      generalize hA : (strs out).take p = A at *
      generalize hB : (strs out).drop p = B at *
      have hC : (A ++ [[T.str s]]).length = p + 1 := by simp [hA1]
      simp only [Ver.enc, List.map_cons, List.map_nil] at d1 L
      refine zD Tryz.func91 rfl rfl ?_
      simp (disch := ((try simp only [LL]); omega)) only [↓GO, ↓xG, GA, ren, zG, zd, refs, zb, cst, zl, zM, z7, E.load, E.store, zL, isC, bin, zN, zO, una, z8, za, zh, zP, blt, fnV, asArg, ze, zn, zo, zj, zm, zg, zk, zu, z6, zK, zJ, E.mkS, zc, unN, zQ, zi, zw, zq, zC, zI, zf, zR, zr, GS2, simprocAttr, GZ, c, c0, c1, hget, d1, L, zH, hsl, Nat.sub_zero, hA, hA1, hC, hB, hB0, hB1, hE, List.nil_append, Nat.zero_add, zB, y6, IH, wk]
      refine yZ (by kernel_rfl) ?_
      first | exact IH | simp (disch := ((try simp only [LL]); omega)) only [↓GO, ↓xG, GA, ren, zG, zd, refs, zb, cst, zl, zM, z7, E.load, E.store, zL, isC, bin, zN, zO, una, z8, za, zh, zP, blt, fnV, asArg, ze, zn, zo, zj, zm, zg, zk, zu, z6, zK, zJ, E.mkS, zc, unN, zQ, zi, zw, zq, zC, zI, zf, zR, zr, GS2, simprocAttr, GZ, IH, zB]
     | some x =>
      have hgx := wV hy
      have hlt : xt out s < m := by rw [hm]; exact (List.getElem?_eq_some_iff.1 hy).1
      have c1 : decide (((xt out s : Nat) : Int) < (m : Int)) = true := by simpa using hlt
      have qx : (x == s) = false := by rw [beq_eq_false_iff_ne]; intro e'; rw [hy, e'] at hx; exact hx rfl
      clear h hs ho hx hy e hil
      generalize xt out s = p at *
      generalize hA : (strs out).take p = A at *
      generalize hB : (strs out).drop p = B at *
      have hC : (A ++ [[T.str s]]).length = p + 1 := by simp [hA1]
      simp only [Ver.enc, List.map_cons, List.map_nil] at d1 L
      refine zD Tryz.func91 rfl rfl ?_
      simp (disch := ((try simp only [LL]); omega)) only [↓GO, ↓xG, GA, ren, zG, zd, refs, zb, cst, zl, zM, z7, E.load, E.store, zL, isC, bin, zN, zO, una, z8, za, zh, zP, blt, fnV, asArg, ze, zn, zo, zj, zm, zg, zk, zu, z6, zK, zJ, E.mkS, zc, unN, zQ, zi, zw, zq, zC, zI, zf, zR, zr, GS2, simprocAttr, GZ, c, c0, c1, hget, hgx, qx, d1, L, zH, hsl, Nat.sub_zero, hA, hA1, hC, hB, hB0, hB1, hE, List.nil_append, Nat.zero_add, zB, y6, IH, wk]
      refine yZ (by kernel_rfl) ?_
      first | exact IH | simp (disch := ((try simp only [LL]); omega)) only [↓GO, ↓xG, GA, ren, zG, zd, refs, zb, cst, zl, zM, z7, E.load, E.store, zL, isC, bin, zN, zO, una, z8, za, zh, zP, blt, fnV, asArg, ze, zn, zo, zj, zm, zg, zk, zu, z6, zK, zJ, E.mkS, zc, unN, zQ, zi, zw, zq, zC, zI, zf, zR, zr, GS2, simprocAttr, GZ, IH, zB]
theorem RX (l : List Str) (hl : l.length ≤ 1048576) (hs : ∀ s ∈ l, s.length ≤ 1048700) : zE (EV Tryz.prog wu) 91 [.t (.list 1 (strs l))] = some (.t (.list 1 (strs (yK [] l)))) := by
 obtain ⟨cap, L⟩ := Yw l hl hs l [] [] 0 (some 0) rfl rfl (by omega) (fun s hs => by simp at hs)
 have ht : (strs (yK [] l)).take (yK [] l).length = strs (yK [] l) := by rw [← zH (yK [] l)]; simp
 simp only [List.length_nil, Int.natCast_zero, show strs [] = [] from rfl] at L
 generalize yK [] l = Z at *
 apply zz
 refine zA rfl Tryz.func91 rfl (by kernel_rfl) ?_
 unfold Tryz.f91
 simp (disch := ((try simp only [LL]); omega)) only [↓GO, ↓xG, GA, ren, zG, zd, refs, zb, cst, zl, zM, z7, E.load, E.store, zL, isC, bin, zN, zO, una, z8, za, zh, zP, blt, fnV, asArg, ze, zn, zo, zj, zm, zg, zk, zu, z6, zK, zJ, E.mkS, zc, unN, zQ, zi, zw, zq, zC, zI, zf, zR, zr, GS2, simprocAttr, GZ, L, ht, y6]
/-- the versions of a name -/
def yr (ps : List zX) (name : Str) : List Str := (ps.filter fun p => p.name == name).map (·.version)
def wv (g : y8) (name : Str) : List Str := yK [] (yr g.packs name)
theorem cS (ps : List zX) (name : Str) : (yr ps name).length ≤ ps.length := by
 unfold yr; rw [List.length_map]; exact List.length_filter_le _ _
theorem oJ (p : zX) (ps : List zX) (name : Str) : yr (p :: ps) name = cond (p.name == name) (p.version :: yr ps name) (yr ps name) := by
 unfold yr
 rw [List.filter_cons]
 cases (p.name == name) <;> rfl
theorem qV {g : y8} (hB : GB g) (name : Str) : (yr g.packs name).length ≤ 1048576 ∧ ∀ s ∈ yr g.packs name, s.length ≤ 1048700 := by
 obtain ⟨h1, _, h3⟩ := hB.len
 refine ⟨Nat.le_trans (cS _ _) h1, fun s hs => ?_⟩
 obtain ⟨p, hp, rfl⟩ := List.mem_map.1 hs
 have := h3 p (List.mem_filter.1 hp).1
 simp only [zX.yp] at this
 omega
theorem TG (name : Str) (ps : List zX) (hl : ps.length ≤ 1048576) : ∀ (rest pre : List zX) (acc : List Str) (m : Nat) (cap : Option Nat), ps = pre ++ rest → m = acc.length → m + rest.length ≤ 1073741824 → ∃ cap',
 EV Tryz.prog wu (.loop 70 58 0 [.t (.str name), .sl 0 0 m cap, .t (.list 6 (zX.yb ps)), .t (.int .i64 (ps.length : Int)), .t (.int .i64 (pre.length : Int))] [.ts 1 (strs acc)])
  = some (.loop (.exit 0) [.sl 0 0 (m + (yr rest name).length) cap'] [.ts 1 (strs (acc ++ yr rest name))])
 | [], pre, acc, m, cap, h, hm, hmM => by
  have c : decide ((pre.length : Int) < (ps.length : Int)) = false := by simp [h]
  refine ⟨cap, ?_⟩
  rw [show yr [] name = [] from rfl]
  simp only [List.append_nil, List.length_nil, Nat.add_zero]
  refine zD Tryz.func70 rfl rfl ?_
  simp (disch := ((try simp only [LL]); omega)) only [↓GO, ↓xG, GA, ren, zG, zd, refs, zb, cst, zl, zM, z7, E.load, E.store, zL, isC, bin, zN, zO, una, z8, za, zh, zP, blt, fnV, asArg, ze, zn, zo, zj, zm, zg, zk, zu, z6, zK, zJ, E.mkS, zc, unN, zQ, zi, zw, zq, zC, zI, zf, zR, zr, GS2, simprocAttr, GZ, c, y6]
 | p :: rest, pre, acc, m, cap, h, hm, hmM => by
  have c : decide ((pre.length : Int) < (ps.length : Int)) = true := by simp [h]; omega
  have hget : (zX.yb ps)[pre.length]? = some p.enc := by rw [h]; simp [zX.yb]
  have hlen : pre.length + rest.length + 1 ≤ ps.length := by rw [h]; simp; omega
  have hsl : (strs acc).length = m := by rw [zH, hm]
  simp only [List.length_cons] at hmM
  rw [oJ]
  obtain ⟨pn, version, source, sums, dev, needs⟩ := p
  simp only [zX.enc] at hget
  simp only
  cases q : (pn == name) with
  | true =>
   obtain ⟨cap', IH⟩ := TG name ps hl rest (pre ++ [⟨pn, version, source, sums, dev, needs⟩]) (acc ++ [version]) (m + 1) none (by rw [h]; simp) (by simp [hm]) (by omega)
   rw [show ((pre ++ [⟨pn, version, source, sums, dev, needs⟩] : List zX).length : Int) = (pre.length : Int) + 1 by simp] at IH
   rw [show strs (acc ++ [version]) = strs acc ++ [[.str version]] by simp [strs]] at IH
   refine ⟨cap', ?_⟩
   simp only [cond_true, List.length_cons]
   rw [show m + ((yr rest name).length + 1) = m + 1 + (yr rest name).length by omega, show acc ++ version :: yr rest name = (acc ++ [version]) ++ yr rest name by simp]
   clear h
   generalize (acc ++ [version]) ++ yr rest name = Z at *
   refine zD Tryz.func70 rfl rfl ?_
   simp (disch := ((try simp only [LL]); omega)) only [↓GO, ↓xG, GA, ren, zG, zd, refs, zb, cst, zl, zM, z7, E.load, E.store, zL, isC, bin, zN, zO, una, z8, za, zh, zP, blt, fnV, asArg, ze, zn, zo, zj, zm, zg, zk, zu, z6, zK, zJ, E.mkS, zc, unN, zQ, zi, zw, zq, zC, zI, zf, zR, zr, GS2, simprocAttr, GZ, c, hget, q, zB, hsl, y6, IH, wk]
  | false =>
   obtain ⟨cap', IH⟩ := TG name ps hl rest (pre ++ [⟨pn, version, source, sums, dev, needs⟩]) acc m cap (by rw [h]; simp) hm (by omega)
   rw [show ((pre ++ [⟨pn, version, source, sums, dev, needs⟩] : List zX).length : Int) = (pre.length : Int) + 1 by simp] at IH
   refine ⟨cap', ?_⟩
   simp only [cond_false]
   clear h
   generalize acc ++ yr rest name = Z at *
   refine zD Tryz.func70 rfl rfl ?_
   simp (disch := ((try simp only [LL]); omega)) only [↓GO, ↓xG, GA, ren, zG, zd, refs, zb, cst, zl, zM, z7, E.load, E.store, zL, isC, bin, zN, zO, una, z8, za, zh, zP, blt, fnV, asArg, ze, zn, zo, zj, zm, zg, zk, zu, z6, zK, zJ, E.mkS, zc, unN, zQ, zi, zw, zq, zC, zI, zf, zR, zr, GS2, simprocAttr, GZ, c, hget, q, zB, y6, IH]
theorem c_vsI (g : y8) (hB : GB g) (name : Str) : zE (EV Tryz.prog wu) 70 [.agg (g.enc.map .t), .t (.str name)] = some (.t (.list 1 (strs (wv g name)))) := by
 obtain ⟨h1, h2⟩ := qV hB name
 have h3 := hB.len
 obtain ⟨cap, L⟩ := TG name g.packs h3.1 g.packs [] [] 0 (some 0) rfl rfl (by omega)
 have d1 := RY (yr g.packs name) h1 h2
 unfold wv
 have hnl := zH (yr g.packs name)
 have ht : (strs (yr g.packs name)).take (yr g.packs name).length = strs (yr g.packs name) := by rw [← hnl]; simp
 clear hB h2 h3
 obtain ⟨top, packs⟩ := g
 simp only [List.length_nil, Int.natCast_zero, Nat.zero_add, List.nil_append, show strs [] = [] from rfl, y8.enc, List.map_cons, List.map_nil] at L d1 ht ⊢
 generalize yK [] (yr packs name) = Z at *
 generalize yr packs name = N at *
 apply zz
 refine zA rfl Tryz.func70 rfl (by kernel_rfl) ?_
 unfold Tryz.f70
 simp (disch := ((try simp only [LL]); omega)) only [↓GO, ↓xG, GA, ren, zG, zd, refs, zb, cst, zl, zM, z7, E.load, E.store, zL, isC, bin, zN, zO, una, z8, za, zh, zP, blt, fnV, asArg, ze, zn, zo, zj, zm, zg, zk, zu, z6, zK, zJ, E.mkS, zc, unN, zQ, zi, zw, zq, zC, zI, zf, zR, zr, GS2, simprocAttr, GZ, L, d1, ht, zX.zY, y6]
theorem TF (name : Str) (g : y8) (hB : GB g) : ∀ (rest pre : List zX) (acc : List Str) (m : Nat) (cap : Option Nat), g.packs = pre ++ rest → m = acc.length → m + rest.length ≤ 1073741824 → ∃ cap',
 EV Tryz.prog wu (.loop 89 58 0 [.t (.str name), .ptr 0 0 0, .sl 1 0 m cap, .t (.int .i64 (pre.length : Int))] [.vs 2 [g.enc.map .t], .ts 1 (strs acc)])
  = some (.loop (.exit 0) [.sl 0 0 (m + (yr rest name).length) cap'] [.ts 1 (strs (acc ++ yr rest name))])
 | [], pre, acc, m, cap, h, hm, hmM => by
  have c : decide ((pre.length : Int) < (g.packs.length : Int)) = false := by simp [h]
  refine ⟨cap, ?_⟩
  rw [show yr [] name = [] from rfl]
  clear hB
  obtain ⟨top, packs⟩ := g
  simp only [List.append_nil, List.length_nil, Nat.add_zero, y8.enc, List.map_cons, List.map_nil] at c ⊢
  refine zD Tryz.func89 rfl rfl ?_
  simp (disch := ((try simp only [LL]); omega)) only [↓GO, ↓xG, GA, ren, zG, zd, refs, zb, cst, zl, zM, z7, E.load, E.store, zL, isC, bin, zN, zO, una, z8, za, zh, zP, blt, fnV, asArg, ze, zn, zo, zj, zm, zg, zk, zu, z6, zK, zJ, E.mkS, zc, unN, zQ, zi, zw, zq, zC, zI, zf, zR, zr, GS2, simprocAttr, GZ, c, zX.zY, y6]
 | p :: rest, pre, acc, m, cap, h, hm, hmM => by
  have c : decide ((pre.length : Int) < (g.packs.length : Int)) = true := by simp [h]; omega
  have hget : (zX.yb g.packs)[pre.length]? = some p.enc := by rw [h]; simp [zX.yb]
  have hlen : pre.length + rest.length + 1 ≤ g.packs.length := by rw [h]; simp; omega
  have hpl := hB.len.1
  have hsl : (strs acc).length = m := by rw [zH, hm]
  simp only [List.length_cons] at hmM
  rw [oJ]
  obtain ⟨pn, version, source, sums, dev, needs⟩ := p
  simp only [zX.enc] at hget
  simp only
  cases q : (pn == name) with
  | true =>
   obtain ⟨cap', IH⟩ := TF name g hB rest (pre ++ [⟨pn, version, source, sums, dev, needs⟩]) (acc ++ [version]) (m + 1) none (by rw [h]; simp) (by simp [hm]) (by omega)
   rw [show ((pre ++ [⟨pn, version, source, sums, dev, needs⟩] : List zX).length : Int) = (pre.length : Int) + 1 by simp] at IH
   rw [show strs (acc ++ [version]) = strs acc ++ [[.str version]] by simp [strs]] at IH
   refine ⟨cap', ?_⟩
   simp only [cond_true, List.length_cons]
   rw [show m + ((yr rest name).length + 1) = m + 1 + (yr rest name).length by omega, show acc ++ version :: yr rest name = (acc ++ [version]) ++ yr rest name by simp]
   clear h hB
   obtain ⟨top, packs⟩ := g
   simp only [y8.enc, List.map_cons, List.map_nil] at c hget hlen hpl IH ⊢
   generalize (acc ++ [version]) ++ yr rest name = Z at *
   refine zD Tryz.func89 rfl rfl ?_
   simp (disch := ((try simp only [LL]); omega)) only [↓GO, ↓xG, GA, ren, zG, zd, refs, zb, cst, zl, zM, z7, E.load, E.store, zL, isC, bin, zN, zO, una, z8, za, zh, zP, blt, fnV, asArg, ze, zn, zo, zj, zm, zg, zk, zu, z6, zK, zJ, E.mkS, zc, unN, zQ, zi, zw, zq, zC, zI, zf, zR, zr, GS2, simprocAttr, GZ, c, hget, q, zX.zY, zB, hsl, y6, IH, wk]
  | false =>
   obtain ⟨cap', IH⟩ := TF name g hB rest (pre ++ [⟨pn, version, source, sums, dev, needs⟩]) acc m cap (by rw [h]; simp) hm (by omega)
   rw [show ((pre ++ [⟨pn, version, source, sums, dev, needs⟩] : List zX).length : Int) = (pre.length : Int) + 1 by simp] at IH
   refine ⟨cap', ?_⟩
   simp only [cond_false]
   clear h hB
   obtain ⟨top, packs⟩ := g
   simp only [y8.enc, List.map_cons, List.map_nil] at c hget hlen hpl IH ⊢
   generalize acc ++ yr rest name = Z at *
   refine zD Tryz.func89 rfl rfl ?_
   simp (disch := ((try simp only [LL]); omega)) only [↓GO, ↓xG, GA, ren, zG, zd, refs, zb, cst, zl, zM, z7, E.load, E.store, zL, isC, bin, zN, zO, una, z8, za, zh, zP, blt, fnV, asArg, ze, zn, zo, zj, zm, zg, zk, zu, z6, zK, zJ, E.mkS, zc, unN, zQ, zi, zw, zq, zC, zI, zf, zR, zr, GS2, simprocAttr, GZ, c, hget, q, zX.zY, zB, y6, IH]
theorem c_vsR (g : y8) (hB : GB g) (name : Str) : zE (EV Tryz.prog wu) 89 [.agg (g.enc.map .t), .t (.str name)] = some (.t (.list 1 (strs (wv g name)))) := by
 obtain ⟨h1, h2⟩ := qV hB name
 have h3 := hB.len
 obtain ⟨cap, L⟩ := TF name g hB g.packs [] [] 0 (some 0) rfl rfl (by omega)
 have d1 := RX (yr g.packs name) h1 h2
 unfold wv
 have hnl := zH (yr g.packs name)
 have ht : (strs (yr g.packs name)).take (yr g.packs name).length = strs (yr g.packs name) := by rw [← hnl]; simp
 clear hB h2 h3
 obtain ⟨top, packs⟩ := g
 simp only [List.length_nil, Int.natCast_zero, Nat.zero_add, List.nil_append, show strs [] = [] from rfl, y8.enc, List.map_cons, List.map_nil] at L d1 ht ⊢
 generalize yK [] (yr packs name) = Z at *
 generalize yr packs name = N at *
 apply zz
 refine zA rfl Tryz.func89 rfl (by kernel_rfl) ?_
 unfold Tryz.f89
 simp (disch := ((try simp only [LL]); omega)) only [↓GO, ↓xG, GA, ren, zG, zd, refs, zb, cst, zl, zM, z7, E.load, E.store, zL, isC, bin, zN, zO, una, z8, za, zh, zP, blt, fnV, asArg, ze, zn, zo, zj, zm, zg, zk, zu, z6, zK, zJ, E.mkS, zc, unN, zQ, zi, zw, zq, zC, zI, zf, zR, zr, GS2, simprocAttr, GZ, L, d1, ht, zX.zY, y6]
end Go.Proofs.YtijninlbpifonaaGreatDoor
/- What is in a range, by both; what a notice tells of. Conditions: those of each lemma. -/
namespace Go.Proofs.YtijninlbpifonaaGreatDoor
open E
set_option linter.unusedSimpArgs false
set_option linter.unusedVariables false
set_option maxRecDepth 100000
theorem ZX {α : Type} [BEq α] (l : List α) : decide ((l.length : Int) > 0) = !(l == []) := by
 cases l with
 | nil => rfl
 | cons x r => rw [beq_nil_cons]; simp only [Bool.not_false]; apply decide_eq_true; simp only [List.length_cons]; omega
set_option maxHeartbeats 16000000 in
theorem RQ (s : Str) (v : Ver) (hv : zx s = (v, true)) (hs : s.length ≤ 1048700) (l : List Bd) (hl : l.length ≤ 4194304) (hb : ∀ b ∈ l, b.1.length ≤ 1048700 ∧ b.2.length ≤ 1048700) : ∀ (rest pre : List Bd), l = pre ++ rest → ∃ x,
 EV Tryz.prog pol (.loop 201 122 0 [.t (.str s), .ptr 0 0 0, .t (.list 2 (bdT l)), .t (.int .i64 (l.length : Int)), .t (.int .i64 (pre.length : Int))] [.vs 4 [v.enc.map .t]])
  = some (cond (rest.any (oe v)) (.loop .ret [.t (.bool true)] []) (.loop (.exit 0) [x] []))
 | [], pre, h => by
  have c : decide ((pre.length : Int) < (l.length : Int)) = false := by simp [h]
  refine ⟨.bad, ?_⟩
  simp only [List.any_nil, cond_false, Ver.enc, List.map_cons, List.map_nil]
  refine zD Tryz.func201 rfl rfl ?_
  simp (disch := ((try simp only [LL]); omega)) only [↓GO, ↓DRW, GA, ren, zG, zd, refs, zb, cst, zl, zM, z7, E.load, E.store, zL, isC, bin, zN, zO, una, z8, za, zh, zP, blt, fnV, asArg, ze, zn, zo, zj, zm, zg, zk, zu, z6, zK, zJ, E.mkS, zc, unN, zQ, zi, zw, zq, zC, zI, zf, zR, zr, GS, simprocAttr, GZ, c, y6]
 | b :: rest, pre, h => by
  have c : decide ((pre.length : Int) < (l.length : Int)) = true := by simp [h]; omega
  have hget : (bdT l)[pre.length]? = some [.str b.1, .str b.2] := by rw [h]; exact rq (fun b : Bd => [T.str b.1, T.str b.2]) pre b rest
  have hlen : pre.length + rest.length + 1 ≤ l.length := by rw [h]; simp; omega
  obtain ⟨hb1, hb2⟩ := hb b (by rw [h]; simp)
  have d1 := YE s b.1 hs hb1
  have d2 := YE s b.2 hs hb2
  have d3 := lX b.1 hb1
  rw [hv] at d1 d2
  obtain ⟨x, IH⟩ := RQ s v hv hs l hl hb rest (pre ++ [b]) (by rw [h]; simp)
  rw [show ((pre ++ [b]).length : Int) = (pre.length : Int) + 1 by simp] at IH
  refine ⟨x, ?_⟩
  have e1 := ud v.pre
  have e2 := ZX (zx b.1).1.pre
  rw [List.any_cons]
  generalize hR : rest.any (oe v) = R at *
  have ht : oe v b = cond ((!(b.1 == []) && decide (od v (zx b.1).1 < 0)) || (!(b.2 == []) && decide (od v (zx b.2).1 ≥ 0))) false
   (v.pre == [] || (!((zx b.1).1.pre == []) && ((zx b.1).1.maj == v.maj && ((zx b.1).1.min == v.min && (zx b.1).1.pat == v.pat)))) := rfl
  rw [ht]
  clear h hb hv ht hR
  obtain ⟨lo, hi⟩ := b
  unfold rvT at d3
  simp only at d1 d2 d3 e2 hget ⊢
  generalize (zx lo).2 = okl at *
  generalize od v (zx lo).1 = n1 at *
  generalize od v (zx hi).1 = n2 at *
  generalize (zx lo).1 = vl at *
  obtain ⟨maj, min, pat, pre'⟩ := v
  obtain ⟨maj2, min2, pat2, pre2⟩ := vl
  simp only [Ver.enc, List.map_cons, List.map_nil] at d3 IH e1 e2 ⊢
  have skip : ∀ (q : Bool), q = true → True := fun _ _ => trivial
  cases q1 : (lo == []) <;> cases q2 : decide (n1 < 0) <;> cases q3 : (hi == []) <;> cases q4 : decide (n2 ≥ 0) <;> simp only [Bool.not_true, Bool.not_false, Bool.and_true, Bool.true_and, Bool.false_and, Bool.and_false, Bool.or_false, Bool.or_true, cond_true, cond_false, Bool.false_or]
  all_goals first
   | (refine zD Tryz.func201 rfl rfl ?_
      simp (disch := ((try simp only [LL]); omega)) only [↓GO, ↓DRW, GA, ren, zG, zd, refs, zb, cst, zl, zM, z7, E.load, E.store, zL, isC, bin, zN, zO, una, z8, za, zh, zP, blt, fnV, asArg, ze, zn, zo, zj, zm, zg, zk, zu, z6, zK, zJ, E.mkS, zc, unN, zQ, zi, zw, zq, zC, zI, zf, zR, zr, GS, simprocAttr, GZ, c, hget, d1, d2, d3, q1, q2, q3, q4, e1, e2, bne, zH, zB, y6, IH]
      done)
   | (cases q5 : (pre' == []) <;> rw [q5] at e1
      · cases q6 : (pre2 == []) <;> rw [q6] at e2
        · cases q7 : (maj2 == maj)
          · refine zD Tryz.func201 rfl rfl ?_
            simp (disch := ((try simp only [LL]); omega)) only [↓GO, ↓DRW, GA, ren, zG, zd, refs, zb, cst, zl, zM, z7, E.load, E.store, zL, isC, bin, zN, zO, una, z8, za, zh, zP, blt, fnV, asArg, ze, zn, zo, zj, zm, zg, zk, zu, z6, zK, zJ, E.mkS, zc, unN, zQ, zi, zw, zq, zC, zI, zf, zR, zr, GS, simprocAttr, GZ, c, hget, d1, d2, d3, q1, q2, q3, q4, e1, e2, q7, bne, zH, zB, y6, IH, Bool.not_false, Bool.not_true, Bool.and_false, Bool.false_or]
          · cases q8 : (min2 == min)
            · refine zD Tryz.func201 rfl rfl ?_
              simp (disch := ((try simp only [LL]); omega)) only [↓GO, ↓DRW, GA, ren, zG, zd, refs, zb, cst, zl, zM, z7, E.load, E.store, zL, isC, bin, zN, zO, una, z8, za, zh, zP, blt, fnV, asArg, ze, zn, zo, zj, zm, zg, zk, zu, z6, zK, zJ, E.mkS, zc, unN, zQ, zi, zw, zq, zC, zI, zf, zR, zr, GS, simprocAttr, GZ, c, hget, d1, d2, d3, q1, q2, q3, q4, e1, e2, q7, q8, bne, zH, zB, y6, IH, Bool.not_false, Bool.not_true, Bool.and_false, Bool.false_or]
            · cases q9 : (pat2 == pat)
              all_goals
               refine zD Tryz.func201 rfl rfl ?_
               simp (disch := ((try simp only [LL]); omega)) only [↓GO, ↓DRW, GA, ren, zG, zd, refs, zb, cst, zl, zM, z7, E.load, E.store, zL, isC, bin, zN, zO, una, z8, za, zh, zP, blt, fnV, asArg, ze, zn, zo, zj, zm, zg, zk, zu, z6, zK, zJ, E.mkS, zc, unN, zQ, zi, zw, zq, zC, zI, zf, zR, zr, GS, simprocAttr, GZ, c, hget, d1, d2, d3, q1, q2, q3, q4, e1, e2, q7, q8, q9, bne, zH, zB, y6, IH, Bool.not_false, Bool.not_true, Bool.and_false, Bool.false_or]
        · refine zD Tryz.func201 rfl rfl ?_
          simp (disch := ((try simp only [LL]); omega)) only [↓GO, ↓DRW, GA, ren, zG, zd, refs, zb, cst, zl, zM, z7, E.load, E.store, zL, isC, bin, zN, zO, una, z8, za, zh, zP, blt, fnV, asArg, ze, zn, zo, zj, zm, zg, zk, zu, z6, zK, zJ, E.mkS, zc, unN, zQ, zi, zw, zq, zC, zI, zf, zR, zr, GS, simprocAttr, GZ, c, hget, d1, d2, d3, q1, q2, q3, q4, e1, e2, bne, zH, zB, y6, IH, Bool.not_false, Bool.not_true, Bool.and_false, Bool.false_or]
      · refine zD Tryz.func201 rfl rfl ?_
        simp (disch := ((try simp only [LL]); omega)) only [↓GO, ↓DRW, GA, ren, zG, zd, refs, zb, cst, zl, zM, z7, E.load, E.store, zL, isC, bin, zN, zO, una, z8, za, zh, zP, blt, fnV, asArg, ze, zn, zo, zj, zm, zg, zk, zu, z6, zK, zJ, E.mkS, zc, unN, zQ, zi, zw, zq, zC, zI, zf, zR, zr, GS, simprocAttr, GZ, c, hget, d1, d2, d3, q1, q2, q3, q4, e1, e2, bne, zH, zB, y6, IH, Bool.true_or])
end Go.Proofs.YtijninlbpifonaaGreatDoor
/- What is in a range, by both; what a notice tells of. Conditions: those of each lemma. -/
namespace Go.Proofs.YtijninlbpifonaaGreatDoor
open E
set_option linter.unusedSimpArgs false
set_option linter.unusedVariables false
set_option maxRecDepth 100000
def BdB (l : List Bd) : Prop := l.length ≤ 4194304 ∧ ∀ b ∈ l, b.1.length ≤ 1048600 ∧ b.2.length ≤ 1048600
theorem c_inI (s : Str) (hs : s.length ≤ 1048576) (l : List Bd) (hl : BdB l) : zE (EV Tryz.prog pol) 201 [.t (.str s), .t (.list 2 (bdT l))] = some (.t (.bool (inB s l))) := by
 have hb : ∀ b ∈ l, b.1.length ≤ 1048700 ∧ b.2.length ≤ 1048700 := fun b hb => by have := hl.2 b hb; omega
 have d1 := lX s (by omega)
 have d2 := Tu l hl.1 hb
 unfold rvT at d1
 unfold inB
 cases ho : (zx s).2 with
 | false =>
  rw [ho] at d1
  generalize (zx s).1 = v at *
  simp only [Bool.false_and]
  obtain ⟨maj, min, pat, pre⟩ := v
  simp only [Ver.enc, List.map_cons, List.map_nil] at d1
  apply zz
  refine zA rfl Tryz.func201 rfl (by kernel_rfl) ?_
  unfold Tryz.f201
  simp (disch := ((try simp only [LL]); omega)) only [↓GO, ↓DRW, GA, ren, zG, zd, refs, zb, cst, zl, zM, z7, E.load, E.store, zL, isC, bin, zN, zO, una, z8, za, zh, zP, blt, fnV, asArg, ze, zn, zo, zj, zm, zg, zk, zu, z6, zK, zJ, E.mkS, zc, unN, zQ, zi, zw, zq, zC, zI, zf, zR, zr, GS, simprocAttr, GZ, d1, y6]
 | true =>
  have hv : zx s = ((zx s).1, true) := by rw [← ho]
  have hvo := (yl ho).2.2.1
  obtain ⟨x, L⟩ := RQ s _ hv (by omega) l hl.1 hb l [] rfl
  rw [ho] at d1
  simp only [List.length_nil, Int.natCast_zero] at L
  cases hr : xn l with
  | false =>
   rw [hr] at d2
   generalize (zx s).1 = v at *
   simp only [Bool.true_and, Bool.false_and]
   obtain ⟨maj, min, pat, pre⟩ := v
   simp only [Ver.enc, List.map_cons, List.map_nil] at d1
   apply zz
   refine zA rfl Tryz.func201 rfl (by kernel_rfl) ?_
   unfold Tryz.f201
   simp (disch := ((try simp only [LL]); omega)) only [↓GO, ↓DRW, GA, ren, zG, zd, refs, zb, cst, zl, zM, z7, E.load, E.store, zL, isC, bin, zN, zO, una, z8, za, zh, zP, blt, fnV, asArg, ze, zn, zo, zj, zm, zg, zk, zu, z6, zK, zJ, E.mkS, zc, unN, zQ, zi, zw, zq, zC, zI, zf, zR, zr, GS, simprocAttr, GZ, d1, d2, y6]
  | true =>
   rw [hr] at d2
   have hall : (l.all fun b => isE b.1 && isE b.2) = true := by
    unfold xn at hr
    rw [Bool.and_eq_true] at hr
    exact hr.1
   rw [cb hvo l hall] at L
   generalize l.any (vM (zx s).1) = R at *
   generalize (zx s).1 = v at *
   simp only [Bool.true_and]
   obtain ⟨maj, min, pat, pre⟩ := v
   simp only [Ver.enc, List.map_cons, List.map_nil] at d1 L
   have hbl : (bdT l).length = l.length := xQ l
   cases R <;> simp only [cond_true, cond_false] at L
   all_goals
    apply zz
    refine zA rfl Tryz.func201 rfl (by kernel_rfl) ?_
    unfold Tryz.f201
    simp (disch := ((try simp only [LL]); omega)) only [↓GO, ↓DRW, GA, ren, zG, zd, refs, zb, cst, zl, zM, z7, E.load, E.store, zL, isC, bin, zN, zO, una, z8, za, zh, zP, blt, fnV, asArg, ze, zn, zo, zj, zm, zg, zk, zu, z6, zK, zJ, E.mkS, zc, unN, zQ, zi, zw, zq, zC, zI, zf, zR, zr, GS, simprocAttr, GZ, d1, d2, L, hbl, y6]
set_option maxHeartbeats 16000000 in
theorem c_tkR (v : Ver) (hv : v.sm) (b : Bd) (hb : b.1.length ≤ 1048600 ∧ b.2.length ≤ 1048600) : zE (EV Tryz.prog pol) 292 [.agg [.t (.str b.1), .t (.str b.2)], .agg (v.enc.map .t)] = some (.t (.bool (vM v b))) := by
 obtain ⟨lo, hi⟩ := b
 simp only at hb ⊢
 have d1 := tV lo (by omega)
 have d2 := tV hi (by omega)
 have d3 := lQ v (zx lo).1 hv (yO lo (by omega)).1
 have d4 := lQ v (zx hi).1 hv (yO hi (by omega)).1
 have e1 := ud v.pre
 have e2 := ZX (zx lo).1.pre
 have ht : vM v (lo, hi) = cond (((zx lo).2 && decide (uz v (zx lo).1 < 0)) || ((zx hi).2 && decide (uz v (zx hi).1 ≥ 0))) false
  (v.pre == [] || ((zx lo).2 && (!((zx lo).1.pre == []) && ((zx lo).1.maj == v.maj && ((zx lo).1.min == v.min && (zx lo).1.pat == v.pat))))) := rfl
 rw [ht]
 clear ht
 unfold rvT at d1 d2
 generalize (zx lo).2 = okl at *
 generalize (zx hi).2 = okh at *
 generalize uz v (zx lo).1 = n1 at *
 generalize uz v (zx hi).1 = n2 at *
 generalize (zx lo).1 = vl at *
 generalize (zx hi).1 = vh at *
 obtain ⟨maj, min, pat, pre'⟩ := v
 obtain ⟨maj2, min2, pat2, pre2⟩ := vl
 obtain ⟨maj3, min3, pat3, pre3⟩ := vh
 simp only [Ver.enc, List.map_cons, List.map_nil] at d1 d2 d3 d4 e1 e2 ⊢
 cases okl <;> cases q2 : decide (n1 < 0) <;> cases okh <;> cases q4 : decide (n2 ≥ 0) <;> simp only [Bool.and_true, Bool.true_and, Bool.false_and, Bool.and_false, Bool.or_false, Bool.or_true, cond_true, cond_false, Bool.false_or]
 all_goals first
  | (skip
     apply zz
     refine zA rfl Tryz.func292 rfl (by kernel_rfl) ?_
     unfold Tryz.f292
     simp (disch := ((try simp only [LL]); omega)) only [↓GO, ↓DRW, GA, ren, zG, zd, refs, zb, cst, zl, zM, z7, E.load, E.store, zL, isC, bin, zN, zO, una, z8, za, zh, zP, blt, fnV, asArg, ze, zn, zo, zj, zm, zg, zk, zu, z6, zK, zJ, E.mkS, zc, unN, zQ, zi, zw, zq, zC, zI, zf, zR, zr, GS, simprocAttr, GZ, d1, d2, d3, d4, q2, q4, e1, e2, bne, zH, y6]
     done)
  | (cases q5 : (pre' == []) <;> rw [q5] at e1
     · cases q6 : (pre2 == []) <;> rw [q6] at e2
       · cases q7 : (maj2 == maj)
         · apply zz
           refine zA rfl Tryz.func292 rfl (by kernel_rfl) ?_
           unfold Tryz.f292
           simp (disch := ((try simp only [LL]); omega)) only [↓GO, ↓DRW, GA, ren, zG, zd, refs, zb, cst, zl, zM, z7, E.load, E.store, zL, isC, bin, zN, zO, una, z8, za, zh, zP, blt, fnV, asArg, ze, zn, zo, zj, zm, zg, zk, zu, z6, zK, zJ, E.mkS, zc, unN, zQ, zi, zw, zq, zC, zI, zf, zR, zr, GS, simprocAttr, GZ, d1, d2, d3, d4, q2, q4, e1, e2, q7, bne, zH, y6, Bool.not_false, Bool.not_true, Bool.and_false, Bool.false_or]
         · cases q8 : (min2 == min)
           · apply zz
             refine zA rfl Tryz.func292 rfl (by kernel_rfl) ?_
             unfold Tryz.f292
             simp (disch := ((try simp only [LL]); omega)) only [↓GO, ↓DRW, GA, ren, zG, zd, refs, zb, cst, zl, zM, z7, E.load, E.store, zL, isC, bin, zN, zO, una, z8, za, zh, zP, blt, fnV, asArg, ze, zn, zo, zj, zm, zg, zk, zu, z6, zK, zJ, E.mkS, zc, unN, zQ, zi, zw, zq, zC, zI, zf, zR, zr, GS, simprocAttr, GZ, d1, d2, d3, d4, q2, q4, e1, e2, q7, q8, bne, zH, y6, Bool.not_false, Bool.not_true, Bool.and_false, Bool.false_or]
           · cases q9 : (pat2 == pat)
             all_goals
              apply zz
              refine zA rfl Tryz.func292 rfl (by kernel_rfl) ?_
              unfold Tryz.f292
              simp (disch := ((try simp only [LL]); omega)) only [↓GO, ↓DRW, GA, ren, zG, zd, refs, zb, cst, zl, zM, z7, E.load, E.store, zL, isC, bin, zN, zO, una, z8, za, zh, zP, blt, fnV, asArg, ze, zn, zo, zj, zm, zg, zk, zu, z6, zK, zJ, E.mkS, zc, unN, zQ, zi, zw, zq, zC, zI, zf, zR, zr, GS, simprocAttr, GZ, d1, d2, d3, d4, q2, q4, e1, e2, q7, q8, q9, bne, zH, y6, Bool.not_false, Bool.not_true, Bool.and_false, Bool.false_or]
       · apply zz
         refine zA rfl Tryz.func292 rfl (by kernel_rfl) ?_
         unfold Tryz.f292
         simp (disch := ((try simp only [LL]); omega)) only [↓GO, ↓DRW, GA, ren, zG, zd, refs, zb, cst, zl, zM, z7, E.load, E.store, zL, isC, bin, zN, zO, una, z8, za, zh, zP, blt, fnV, asArg, ze, zn, zo, zj, zm, zg, zk, zu, z6, zK, zJ, E.mkS, zc, unN, zQ, zi, zw, zq, zC, zI, zf, zR, zr, GS, simprocAttr, GZ, d1, d2, d3, d4, q2, q4, e1, e2, bne, zH, y6, Bool.not_false, Bool.not_true, Bool.and_false, Bool.false_or]
     · apply zz
       refine zA rfl Tryz.func292 rfl (by kernel_rfl) ?_
       unfold Tryz.f292
       simp (disch := ((try simp only [LL]); omega)) only [↓GO, ↓DRW, GA, ren, zG, zd, refs, zb, cst, zl, zM, z7, E.load, E.store, zL, isC, bin, zN, zO, una, z8, za, zh, zP, blt, fnV, asArg, ze, zn, zo, zj, zm, zg, zk, zu, z6, zK, zJ, E.mkS, zc, unN, zQ, zi, zw, zq, zC, zI, zf, zR, zr, GS, simprocAttr, GZ, d1, d2, d3, d4, q2, q4, e1, e2, bne, zH, y6, Bool.true_or])
theorem RP (v : Ver) (hv : v.sm) (ok : Bool) (l : List Bd) (hl : BdB l) : ∀ (rest pre : List Bd), l = pre ++ rest → ∃ x,
 EV Tryz.prog pol (.loop 239 58 0 [.t (.list 2 (bdT l)), .ptr 0 0 0, .t (.bool ok), .t (.int .i64 (pre.length : Int))] [.vs 4 [v.enc.map .t]])
  = some (cond (ok && (xn l && rest.any (vM v))) (.loop .ret [.t (.bool true)] []) (.loop (.exit 0) [x] []))
 | [], pre, h => by
  have c : decide ((pre.length : Int) < (l.length : Int)) = false := by simp [h]
  refine ⟨.bad, ?_⟩
  simp only [List.any_nil, Bool.and_false, cond_false, Ver.enc, List.map_cons, List.map_nil]
  refine zD Tryz.func239 rfl rfl ?_
  simp (disch := ((try simp only [LL]); omega)) only [↓GO, ↓DRW, GA, ren, zG, zd, refs, zb, cst, zl, zM, z7, E.load, E.store, zL, isC, bin, zN, zO, una, z8, za, zh, zP, blt, fnV, asArg, ze, zn, zo, zj, zm, zg, zk, zu, z6, zK, zJ, E.mkS, zc, unN, zQ, zi, zw, zq, zC, zI, zf, zR, zr, GS, simprocAttr, GZ, c, xQ, y6]
 | b :: rest, pre, h => by
  have c : decide ((pre.length : Int) < (l.length : Int)) = true := by simp [h]; omega
  have hget : (bdT l)[pre.length]? = some [.str b.1, .str b.2] := by rw [h]; exact rq (fun b : Bd => [T.str b.1, T.str b.2]) pre b rest
  have hlen : pre.length + rest.length + 1 ≤ l.length := by rw [h]; simp; omega
  have hll := hl.1
  have d1 := c_tkR v hv b (hl.2 b (by rw [h]; simp))
  have d2 := gw l hl.1 (fun b hb => by have := hl.2 b hb; omega)
  obtain ⟨x, IH⟩ := RP v hv ok l hl rest (pre ++ [b]) (by rw [h]; simp)
  rw [show ((pre ++ [b]).length : Int) = (pre.length : Int) + 1 by simp] at IH
  refine ⟨x, ?_⟩
  rw [List.any_cons]
  generalize rest.any (vM v) = R at *
  generalize vM v b = t at *
  generalize xn l = rk at *
  clear h hl
  obtain ⟨lo, hi⟩ := b
  simp only at d1 hget
  obtain ⟨maj, min, pat, pre'⟩ := v
  simp only [Ver.enc, List.map_cons, List.map_nil] at d1 IH ⊢
  cases ok <;> cases rk <;> cases t <;> simp only [Bool.true_and, Bool.false_and, Bool.true_or, Bool.false_or, cond_true, cond_false] at IH ⊢
  all_goals
   refine zD Tryz.func239 rfl rfl ?_
   simp (disch := ((try simp only [LL]); omega)) only [↓GO, ↓DRW, GA, ren, zG, zd, refs, zb, cst, zl, zM, z7, E.load, E.store, zL, isC, bin, zN, zO, una, z8, za, zh, zP, blt, fnV, asArg, ze, zn, zo, zj, zm, zg, zk, zu, z6, zK, zJ, E.mkS, zc, unN, zQ, zi, zw, zq, zC, zI, zf, zR, zr, GS, simprocAttr, GZ, c, hget, d1, d2, xQ, zB, y6, IH]
theorem c_inR (s : Str) (hs : s.length ≤ 1048576) (l : List Bd) (hl : BdB l) : zE (EV Tryz.prog pol) 239 [.t (.str s), .t (.list 2 (bdT l))] = some (.t (.bool (inB s l))) := by
 have d1 := tV s (by omega)
 obtain ⟨x, L⟩ := RP (zx s).1 (yO s (by omega)).1 (zx s).2 l hl l [] rfl
 unfold rvT at d1
 unfold inB
 simp only [List.length_nil, Int.natCast_zero] at L
 generalize ((zx s).2 && (xn l && l.any (vM (zx s).1))) = R at *
 generalize (zx s).2 = ok at *
 generalize (zx s).1 = v at *
 obtain ⟨maj, min, pat, pre⟩ := v
 simp only [Ver.enc, List.map_cons, List.map_nil] at d1 L
 cases R <;> simp only [cond_true, cond_false] at L
 all_goals
  apply zz
  refine zA rfl Tryz.func239 rfl (by kernel_rfl) ?_
  unfold Tryz.f239
  simp (disch := ((try simp only [LL]); omega)) only [↓GO, ↓DRW, GA, ren, zG, zd, refs, zb, cst, zl, zM, z7, E.load, E.store, zL, isC, bin, zN, zO, una, z8, za, zh, zP, blt, fnV, asArg, ze, zn, zo, zj, zm, zg, zk, zu, z6, zK, zJ, E.mkS, zc, unN, zQ, zi, zw, zq, zC, zI, zf, zR, zr, GS, simprocAttr, GZ, d1, L, y6]
end Go.Proofs.YtijninlbpifonaaGreatDoor
/- What notices tell of a graph, by both. Conditions: those of each lemma. -/
namespace Go.Proofs.YtijninlbpifonaaGreatDoor
open E
set_option linter.unusedSimpArgs false
set_option linter.unusedVariables false
set_option maxRecDepth 100000
theorem kM {s : Str} {l : List Bd} (h : wo s = some l) : BdB l := by
 unfold wo at h
 cases hc : (decide ((s.length : Int) > 200) || decide (((x6 0 s).length : Int) > 8)) with
 | true => rw [hc] at h; cases h
 | false =>
  rw [hc, cond_false] at h
  have h1 := mU h
  have h2 := (rz _ _ h).2
  simp only [Bool.or_eq_false_iff, decide_eq_false_iff_not] at hc
  exact ⟨by omega, fun b hb => by have := h1 b hb; omega⟩
theorem c_afI (n : zy) (hb : n.yp ≤ 1048576) (name ver : Str) (hn : name.length ≤ 1048576) (hv : ver.length ≤ 1048576) : zE (EV Tryz.prog pol) 100 [.agg (n.enc.map .t), .t (.str name), .t (.str ver)] = some (.t (.bool (afT n name ver))) := by
 have d1 := c_noI n hb
 have d2 := Q0 n.range (by simp only [zy.yp] at hb; omega)
 rw [mn] at d2
 unfold afT
 have e : pM n = xH n := rfl
 rw [e]
 cases hr : wo n.range with
 | none =>
  have hno : xH n = false := by unfold xH; rw [hr]; rfl
  rw [hno] at d1 ⊢
  rw [hr] at d2
  simp only [Bool.false_and, rrT] at d2 ⊢
  obtain ⟨nm, rg, tx⟩ := n
  simp only [zy.enc, List.map_cons, List.map_nil] at d1 d2 ⊢
  apply zz
  refine zA rfl Tryz.func100 rfl (by kernel_rfl) ?_
  unfold Tryz.f100
  simp (disch := ((try simp only [LL]); omega)) only [↓GO, ↓DRW, GA, ren, zG, zd, refs, zb, cst, zl, zM, z7, E.load, E.store, zL, isC, bin, zN, zO, una, z8, za, zh, zP, blt, fnV, asArg, ze, zn, zo, zj, zm, zg, zk, zu, z6, zK, zJ, E.mkS, zc, unN, zQ, zi, zw, zq, zC, zI, zf, zR, zr, GS, simprocAttr, GZ, d1, d2, y6]
 | some l =>
  have d3 := c_inI ver hv l (kM hr)
  rw [hr] at d2
  simp only [rrT, Option.getD_some] at d2 ⊢
  generalize xH n = ok at *
  generalize inB ver l = t at *
  obtain ⟨nm, rg, tx⟩ := n
  simp only [zy.enc, List.map_cons, List.map_nil] at d1 d2 ⊢
  cases ok <;> cases q : (nm == name) <;> simp only [Bool.true_and, Bool.false_and]
  all_goals
   apply zz
   refine zA rfl Tryz.func100 rfl (by kernel_rfl) ?_
   unfold Tryz.f100
   simp (disch := ((try simp only [LL]); omega)) only [↓GO, ↓DRW, GA, ren, zG, zd, refs, zb, cst, zl, zM, z7, E.load, E.store, zL, isC, bin, zN, zO, una, z8, za, zh, zP, blt, fnV, asArg, ze, zn, zo, zj, zm, zg, zk, zu, z6, zK, zJ, E.mkS, zc, unN, zQ, zi, zw, zq, zC, zI, zf, zR, zr, GS, simprocAttr, GZ, d1, d2, d3, q, y6]
theorem c_afR (n : zy) (hb : n.yp ≤ 1048576) (name ver : Str) (hn : name.length ≤ 1048576) (hv : ver.length ≤ 1048576) : zE (EV Tryz.prog pol) 160 [.agg (n.enc.map .t), .t (.str name), .t (.str ver)] = some (.t (.bool (afT n name ver))) := by
 have d1 := c_noR n hb
 have d2 := RZ n.range (by simp only [zy.yp] at hb; omega)
 unfold afT
 have e : pM n = xH n := rfl
 rw [e]
 cases hr : wo n.range with
 | none =>
  have hno : xH n = false := by unfold xH; rw [hr]; rfl
  rw [hno] at d1 ⊢
  rw [hr] at d2
  simp only [Bool.false_and, rrT] at d2 ⊢
  obtain ⟨nm, rg, tx⟩ := n
  simp only [zy.enc, List.map_cons, List.map_nil] at d1 d2 ⊢
  apply zz
  refine zA rfl Tryz.func160 rfl (by kernel_rfl) ?_
  unfold Tryz.f160
  simp (disch := ((try simp only [LL]); omega)) only [↓GO, ↓DRW, GA, ren, zG, zd, refs, zb, cst, zl, zM, z7, E.load, E.store, zL, isC, bin, zN, zO, una, z8, za, zh, zP, blt, fnV, asArg, ze, zn, zo, zj, zm, zg, zk, zu, z6, zK, zJ, E.mkS, zc, unN, zQ, zi, zw, zq, zC, zI, zf, zR, zr, GS, simprocAttr, GZ, d1, d2, y6]
 | some l =>
  have d3 := c_inR ver hv l (kM hr)
  rw [hr] at d2
  simp only [rrT, Option.getD_some] at d2 ⊢
  generalize xH n = ok at *
  generalize inB ver l = t at *
  obtain ⟨nm, rg, tx⟩ := n
  simp only [zy.enc, List.map_cons, List.map_nil] at d1 d2 ⊢
  cases ok <;> cases q : (nm == name) <;> simp only [Bool.true_and, Bool.false_and]
  all_goals
   apply zz
   refine zA rfl Tryz.func160 rfl (by kernel_rfl) ?_
   unfold Tryz.f160
   simp (disch := ((try simp only [LL]); omega)) only [↓GO, ↓DRW, GA, ren, zG, zd, refs, zb, cst, zl, zM, z7, E.load, E.store, zL, isC, bin, zN, zO, una, z8, za, zh, zP, blt, fnV, asArg, ze, zn, zo, zj, zm, zg, zk, zu, z6, zK, zJ, E.mkS, zc, unN, zQ, zi, zw, zq, zC, zI, zf, zR, zr, GS, simprocAttr, GZ, d1, d2, d3, q, y6]
end Go.Proofs.YtijninlbpifonaaGreatDoor
/- slices.IndexFunc, ContainsFunc at Notice. Conditions: those of each lemma. -/
namespace Go.Proofs.YtijninlbpifonaaGreatDoor
open E
set_option linter.unusedSimpArgs false
set_option linter.unusedVariables false
set_option maxRecDepth 100000
theorem rS (g : Nat) (caps : List T) (p : zy → Bool) (es : List zy) (hl : es.length ≤ 4611686018427387904) (hp : ∀ x ∈ es, zE (EV Tryz.prog pol) g (.agg (x.enc.map .t) :: caps.map .t) = some (.t (.bool (p x)))) : ∀ (rest pre : List zy), es = pre ++ rest →
 EV Tryz.prog pol (.loop 200 26 0 [.t (.list 3 (zy.yb es)), .t (.fn g caps), .t (.int .i64 (es.length : Int)), .t (.int .i64 (pre.length : Int))] []) = some (match jQ p rest pre.length with | some i => .loop .ret [.t (.int .i64 (i : Int))] [] | none => .loop (.exit 0) [.bad] [])
 | [], pre, hs => by
  have c : decide ((pre.length : Int) < (es.length : Int)) = false := by simp [hs]
  refine zD Tryz.func200 rfl rfl ?_
  simp only [↓GO, ↓DRW, GA, ren, zG, zd, refs, zb, cst, zl, zM, z7, E.load, E.store, zL, isC, bin, zN, zO, una, z8, za, zh, zP, blt, fnV, asArg, ze, zn, zo, zj, zm, zg, zk, zu, z6, zK, zJ, E.mkS, zc, unN, zQ, zi, zw, zq, zC, zI, zf, zR, zr, GS, simprocAttr, c, jQ]
 | b :: rest, pre, hs => by
  have c : decide ((pre.length : Int) < (es.length : Int)) = true := by simp [hs]; omega
  have hi : pre.length < es.length := by rw [hs]; simp
  have hget := zy.yW es pre.length hi
  have hgb : es[pre.length] = b := by simp [hs]
  rw [hgb] at hget
  have hb := hp b (by rw [hs]; simp)
  have e1 : (pre.length : Int) + 1 = ((pre ++ [b]).length : Int) := by simp
  have IH := rS g caps p es hl hp rest (pre ++ [b]) (by rw [hs]; simp)
  refine zD Tryz.func200 rfl rfl ?_
  simp only [jQ]
  cases hpb : p b with
  | true =>
   rw [hpb] at hb
   simp (disch := omega) only [↓GO, ↓DRW, GA, ren, zG, zd, refs, zb, cst, zl, zM, z7, E.load, E.store, zL, isC, bin, zN, zO, una, z8, za, zh, zP, blt, fnV, asArg, ze, zn, zo, zj, zm, zg, zk, zu, z6, zK, zJ, E.mkS, zc, unN, zQ, zi, zw, zq, zC, zI, zf, zR, zr, GS, simprocAttr, zy.zY, c, hget, zy.ua, zy.vd, zB, hb]
  | false =>
   rw [hpb] at hb
   simp (disch := omega) only [↓GO, ↓DRW, GA, ren, zG, zd, refs, zb, cst, zl, zM, z7, E.load, E.store, zL, isC, bin, zN, zO, una, z8, za, zh, zP, blt, fnV, asArg, ze, zn, zo, zj, zm, zg, zk, zu, z6, zK, zJ, E.mkS, zc, unN, zQ, zi, zw, zq, zC, zI, zf, zR, zr, GS, simprocAttr, zy.zY, c, hget, zy.ua, zy.vd, zB, hb]
   rw [e1, IH]
   simp
theorem kf (g : Nat) (caps : List T) (p : zy → Bool) (es : List zy) (hl : es.length ≤ 4611686018427387904) (hp : ∀ x ∈ es, zE (EV Tryz.prog pol) g (.agg (x.enc.map .t) :: caps.map .t) = some (.t (.bool (p x)))) :
 zE (EV Tryz.prog pol) 200 [.t (.list 3 (zy.yb es)), .t (.fn g caps)] = some (.t (.int .i64 (ixI (jQ p es 0)))) := by
 have IH := rS g caps p es hl hp es [] rfl
 simp only [List.length_nil, Int.natCast_zero] at IH
 apply zz
 refine zA rfl Tryz.func200 rfl (by kernel_rfl) ?_
 unfold Tryz.f200
 cases hf : jQ p es 0 with
 | none => rw [hf] at IH; simp only [↓GO, ↓DRW, GA, ren, zG, zd, refs, zb, cst, zl, zM, z7, E.load, E.store, zL, isC, bin, zN, zO, una, z8, za, zh, zP, blt, fnV, asArg, ze, zn, zo, zj, zm, zg, zk, zu, z6, zK, zJ, E.mkS, zc, unN, zQ, zi, zw, zq, zC, zI, zf, zR, zr, GS, simprocAttr, zy.zY, IH, ixI]
 | some i => rw [hf] at IH; simp only [↓GO, ↓DRW, GA, ren, zG, zd, refs, zb, cst, zl, zM, z7, E.load, E.store, zL, isC, bin, zN, zO, una, z8, za, zh, zP, blt, fnV, asArg, ze, zn, zo, zj, zm, zg, zk, zu, z6, zK, zJ, E.mkS, zc, unN, zQ, zi, zw, zq, zC, zI, zf, zR, zr, GS, simprocAttr, zy.zY, IH, ixI]
theorem kg (g : Nat) (caps : List T) (p : zy → Bool) (es : List zy) (hl : es.length ≤ 4611686018427387904) (hp : ∀ x ∈ es, zE (EV Tryz.prog pol) g (.agg (x.enc.map .t) :: caps.map .t) = some (.t (.bool (p x)))) :
 zE (EV Tryz.prog pol) 98 [.t (.list 3 (zy.yb es)), .t (.fn g caps)] = some (.t (.bool (es.any p))) := by
 have h1 := kf g caps p es hl hp
 apply zz
 refine zA rfl Tryz.func98 rfl (by kernel_rfl) ?_
 unfold Tryz.f98
 have h2 := SD p es
 simp only [↓GO, ↓DRW, GA, ren, zG, zd, refs, zb, cst, zl, zM, z7, E.load, E.store, zL, isC, bin, zN, zO, una, z8, za, zh, zP, blt, fnV, asArg, ze, zn, zo, zj, zm, zg, zk, zu, z6, zK, zJ, E.mkS, zc, unN, zQ, zi, zw, zq, zC, zI, zf, zR, zr, GS, simprocAttr, h1, h2]
end Go.Proofs.YtijninlbpifonaaGreatDoor
/- Does a notice tell of it? by the implementation's Mend. Conditions: those of each lemma. -/
namespace Go.Proofs.YtijninlbpifonaaGreatDoor
open E
set_option linter.unusedSimpArgs false
set_option linter.unusedVariables false
set_option maxRecDepth 100000
theorem Ti (ns : List zy) (hl : ns.length ≤ 1048576) (hb : ∀ n ∈ ns, n.yp ≤ 1048576) (a b : Str) (ha : a.length ≤ 1048576) (hv : b.length ≤ 1048576) : ∀ (rest pre : List zy), ns = pre ++ rest →
 EV Tryz.prog pol (.loop 93 26 0 [.t (.list 3 (zy.yb ns)), .t (.str a), .t (.str b), .t (.int .i64 (pre.length : Int))] []) = some (cond (rest.any fun n => afT n a b) (.loop .ret [.t (.bool true)] []) (.loop (.exit 0) [.bad] []))
 | [], pre, h => by
  have c : decide ((pre.length : Int) < (ns.length : Int)) = false := by simp [h]
  rw [List.any_nil, cond_false]
  refine zD Tryz.func93 rfl rfl ?_
  simp (disch := ((try simp only [LL]); omega)) only [↓GO, ↓DRW, GA, ren, zG, zd, refs, zb, cst, zl, zM, z7, E.load, E.store, zL, isC, bin, zN, zO, una, z8, za, zh, zP, blt, fnV, asArg, ze, zn, zo, zj, zm, zg, zk, zu, z6, zK, zJ, E.mkS, zc, unN, zQ, zi, zw, zq, zC, zI, zf, zR, zr, GS, simprocAttr, GZ, c, zy.zY, y6]
 | x :: rest, pre, h => by
  have c : decide ((pre.length : Int) < (ns.length : Int)) = true := by simp [h]; omega
  have hget : (zy.yb ns)[pre.length]? = some x.enc := by rw [h]; simp [zy.yb]
  have hlen : pre.length + rest.length + 1 ≤ ns.length := by rw [h]; simp; omega
  have IH := Ti ns hl hb a b ha hv rest (pre ++ [x]) (by rw [h]; simp)
  rw [show ((pre ++ [x]).length : Int) = (pre.length : Int) + 1 by simp] at IH
  have d1 := c_afR x (hb x (by rw [h]; simp)) a b ha hv
  rw [List.any_cons]
  clear h hb
  obtain ⟨nm, rg, tx⟩ := x
  simp only [zy.enc, List.map_cons, List.map_nil] at hget d1
  cases q : afT ⟨nm, rg, tx⟩ a b with
  | true =>
   rw [q] at d1
   simp only [Bool.true_or, cond_true]
   refine zD Tryz.func93 rfl rfl ?_
   simp (disch := ((try simp only [LL]); omega)) only [↓GO, ↓DRW, GA, ren, zG, zd, refs, zb, cst, zl, zM, z7, E.load, E.store, zL, isC, bin, zN, zO, una, z8, za, zh, zP, blt, fnV, asArg, ze, zn, zo, zj, zm, zg, zk, zu, z6, zK, zJ, E.mkS, zc, unN, zQ, zi, zw, zq, zC, zI, zf, zR, zr, GS, simprocAttr, GZ, c, hget, zy.zY, d1, zB, y6]
  | false =>
   rw [q] at d1
   simp only [Bool.false_or]
   refine zD Tryz.func93 rfl rfl ?_
   simp (disch := ((try simp only [LL]); omega)) only [↓GO, ↓DRW, GA, ren, zG, zd, refs, zb, cst, zl, zM, z7, E.load, E.store, zL, isC, bin, zN, zO, una, z8, za, zh, zP, blt, fnV, asArg, ze, zn, zo, zj, zm, zg, zk, zu, z6, zK, zJ, E.mkS, zc, unN, zQ, zi, zw, zq, zC, zI, zf, zR, zr, GS, simprocAttr, GZ, c, hget, zy.zY, d1, zB, y6, IH]
theorem QF (ns : List zy) (hl : ns.length ≤ 1048576) (hb : ∀ n ∈ ns, n.yp ≤ 1048576) (a b : Str) (ha : a.length ≤ 1048576) (hv : b.length ≤ 1048576) : zE (EV Tryz.prog pol) 93 [.t (.list 3 (zy.yb ns)), .t (.str a), .t (.str b)] = some (.t (.bool (ns.any fun n => afT n a b))) := by
 have L := Ti ns hl hb a b ha hv ns [] rfl
 simp only [List.length_nil, Int.natCast_zero] at L
 cases q : (ns.any fun n => afT n a b) <;> rw [q] at L <;> simp only [cond_true, cond_false] at L
 all_goals
  apply zz
  refine zA rfl Tryz.func93 rfl (by kernel_rfl) ?_
  unfold Tryz.f93
  simp (disch := ((try simp only [LL]); omega)) only [↓GO, ↓DRW, GA, ren, zG, zd, refs, zb, cst, zl, zM, z7, E.load, E.store, zL, isC, bin, zN, zO, una, z8, za, zh, zP, blt, fnV, asArg, ze, zn, zo, zj, zm, zg, zk, zu, z6, zK, zJ, E.mkS, zc, unN, zQ, zi, zw, zq, zC, zI, zf, zR, zr, GS, simprocAttr, GZ, L, zy.zY, y6]
theorem c_md1 (n : zy) (hb : n.yp ≤ 1048576) (name : Str) (hn : name.length ≤ 1048576) (l : List Str) (i : Nat) (s : Str) (hi : l[i]? = some s) (hs : s.length ≤ 1048576) : zE (EV Tryz.prog pol) 99 [.agg (n.enc.map .t), .t (.fp [.str name]), .t (.fp [.list 1 (strs l)]), .t (.fp [.int .i64 (i : Int)])] = some (.t (.bool (afT n name s))) := by
 have d1 := c_afI n hb name s hn hs
 have hget := wV hi
 obtain ⟨nm, rg, tx⟩ := n
 simp only [zy.enc, List.map_cons, List.map_nil] at d1 ⊢
 apply zz
 refine zA rfl Tryz.func99 rfl (by kernel_rfl) ?_
 unfold Tryz.f99
 simp (disch := ((try simp only [LL]); omega)) only [↓GO, ↓DRW, GA, ren, zG, zd, refs, zb, cst, zl, zM, z7, E.load, E.store, zL, isC, bin, zN, zO, una, z8, za, zh, zP, blt, fnV, asArg, ze, zn, zo, zj, zm, zg, zk, zu, z6, zK, zJ, E.mkS, zc, unN, zQ, zi, zw, zq, zC, zI, zf, zR, zr, GS, simprocAttr, GZ, d1, hget, y6]
theorem c_mdC (ns : List zy) (hl : ns.length ≤ 1048576) (hb : ∀ n ∈ ns, n.yp ≤ 1048576) (name : Str) (hn : name.length ≤ 1048576) (l : List Str) (i : Nat) (s : Str) (hi : l[i]? = some s) (hs : s.length ≤ 1048576) :
 zE (EV Tryz.prog pol) 98 [.t (.list 3 (zy.yb ns)), .t (.fn 99 [.fp [.str name], .fp [.list 1 (strs l)], .fp [.int .i64 (i : Int)]])] = some (.t (.bool (ns.any fun n => afT n name s))) :=
 kg 99 [.fp [.str name], .fp [.list 1 (strs l)], .fp [.int .i64 (i : Int)]] (fun x => afT x name s) ns (by omega) (fun x hxn => c_md1 x (hb x hxn) name hn l i s hi hs)
end Go.Proofs.YtijninlbpifonaaGreatDoor
/- What mends, by both. Conditions: those of each lemma. -/
namespace Go.Proofs.YtijninlbpifonaaGreatDoor
open E
set_option linter.unusedSimpArgs false
set_option linter.unusedVariables false
set_option maxRecDepth 100000
theorem qM (l : List Str) : jU (yK [] l) ∧ rW (yK [] l) ∧ ∀ s ∈ yK [] l, s ∈ l := by
 obtain ⟨k1, k2, k3⟩ := sM l [] (fun s hs => by simp at hs) (by simp [rW])
 exact ⟨k1, k2, fun s hs => by
  rcases (k3 s).1 hs with h | h
  · simp at h
  · exact h.1⟩
def cC (ns : List zy) (name s : Str) : Bool := ns.any fun n => afT n name s
/-- would it do? -/
def okV (ns : List zy) (name low s : Str) : Bool := decide (xF s low ≥ 0) && !(cC ns name s)
/-- from the greatest down -/
def mdO (ns : List zy) (name low : Str) (l : List Str) : Nat → Option Str
 | 0 => none
 | n + 1 => match l[n]? with
  | some s => cond (decide (xF s low ≥ 0)) (cond (cC ns name s) (mdO ns name low l n) (some s)) none
  | none => none
/-- from the least up -/
def mdR (ns : List zy) (name low : Str) : Str → List Str → Str
 | b, [] => b
 | b, s :: r => mdR ns name low (cond (okV ns name low s) s b) r
theorem T8 (ns : List zy) (name low : Str) : ∀ (l : List Str) (b : Str), mdR ns name low b l = ((l.filter (okV ns name low)).getLast?).getD b
 | [], b => rfl
 | s :: r, b => by
  rw [mdR, T8 ns name low r, List.filter_cons]
  cases okV ns name low s with
  | false => rfl
  | true =>
   simp only [cond_true, if_true]
   cases h : r.filter (okV ns name low) with
   | nil => rfl
   | cons x q => rw [List.getLast?_cons_cons]; cases h2 : (x :: q).getLast? with
    | none => simp at h2
    | some z => rfl
theorem T9 (ns : List zy) (name low : Str) (hlow : isV low = true) (l : List Str) (hv : jU l) (hs : rW l) : ∀ n, n ≤ l.length → mdO ns name low l n = ((l.take n).filter (okV ns name low)).getLast?
 | 0, _ => rfl
 | n + 1, h => by
  have hn : n < l.length := by omega
  have e : l.take (n + 1) = l.take n ++ [l[n]] := List.take_succ_eq_append_getElem hn
  rw [mdO, List.getElem?_eq_getElem hn, e, List.filter_append]
  simp only
  have hf : [l[n]].filter (okV ns name low) = cond (okV ns name low l[n]) [l[n]] [] := by
   rw [List.filter_cons]; cases okV ns name low l[n] <;> rfl
  rw [hf]
  unfold okV at *
  cases q1 : decide (xF l[n] low ≥ 0) with
  | true =>
   cases q2 : cC ns name l[n] with
   | true =>
    simp only [Bool.not_true, Bool.and_false, cond_false, cond_true, List.append_nil]
    exact T9 ns name low hlow l hv hs n (by omega)
   | false =>
    simp only [Bool.not_false, Bool.and_true, cond_true, cond_false]
    rw [List.getLast?_concat]
  | false =>
   simp only [Bool.false_and, cond_false, List.append_nil]
   have h1 := of_decide_eq_false q1
   have : (l.take n).filter (fun s => decide (xF s low ≥ 0) && !(cC ns name s)) = [] := by
    rw [List.filter_eq_nil_iff]
    intro x hx
    have hxl := List.mem_of_mem_take hx
    have hlt : xF x l[n] < 0 := by
     obtain ⟨i, hi, rfl⟩ := List.getElem_of_mem hx
     have hi2 : i < n := by rw [List.length_take] at hi; omega
     rw [List.getElem_take]
     exact List.pairwise_iff_getElem.1 hs i n (by omega) hn hi2
    have := yA.trans x l[n] low (hv x hxl) (hv _ (List.getElem_mem hn)) hlow hlt (by omega)
    simp only [Bool.and_eq_true, decide_eq_true_eq, not_and]
    intro h3; omega
   rw [this]; rfl
/-- a version that no notice tells of -/
def ck (g : y8) (ns : List zy) (name : Str) (vs : List Str) : Str := match (wv g name).getLast? with
 | none => []
 | some low => mdR ns name low [] (yK [] vs)
theorem xp {l : List Str} {x : Str} (h : l.getLast? = some x) : l[l.length - 1]? = some x ∧ 0 < l.length := by
 rw [List.getLast?_eq_getElem?] at h
 exact ⟨h, by cases l with | nil => simp at h | cons a r => simp⟩
theorem eF {l : List Str} (h : l.getLast? = none) : l = [] := by simpa using h
theorem RN (ns : List zy) (hl : ns.length ≤ 1048576) (hb : ∀ n ∈ ns, n.yp ≤ 1048576) (name low : Str) (hn : name.length ≤ 1048576) (hlow : low.length ≤ 1048576) (hlv : isV low = true) (hv : List Str) (hi : hv[hv.length - 1]? = some low) (hp : 0 < hv.length) (hhl : hv.length ≤ 1048576) (l : List Str) (hll : l.length ≤ 1048576) (hlb : ∀ s ∈ l, s.length ≤ 1048576) (hla : jU l) : ∀ n : Nat, n ≤ l.length →
 EV Tryz.prog wu (.loop 22 250 0 [.t (.list 3 (zy.yb ns)), .ptr 0 0 0, .t (.list 1 (strs hv)), .ptr 1 0 0, .ptr 2 0 0] [.vs 1 [[.t (.str name)]], .vs 1 [[.t (.list 1 (strs l))]], .vs 1 [[.t (.int .i64 ((n : Int) - 1))]]])
  = some (match mdO ns name low l n with | some s => .loop .ret [.t (.str s)] [] | none => .loop (.exit 0) [.bad] [])
 | 0, _ => by
  have c : decide ((0 : Int) - 1 ≥ 0) = false := by decide
  rw [mdO]
  simp only [Int.natCast_zero]
  refine zD Tryz.func22 rfl rfl ?_
  simp (disch := ((try simp only [LL]); omega)) only [↓GO, ↓xG, GA, ren, zG, zd, refs, zb, cst, zl, zM, z7, E.load, E.store, zL, isC, bin, zN, zO, una, z8, za, zh, zP, blt, fnV, asArg, ze, zn, zo, zj, zm, zg, zk, zu, z6, zK, zJ, E.mkS, zc, unN, zQ, zi, zw, zq, zC, zI, zf, zR, zr, GS2, simprocAttr, GZ, c, y6]
 | n + 1, h => by
  have hn' : n < l.length := by omega
  have hx : l[n]? = some l[n] := List.getElem?_eq_getElem hn'
  have hxm := List.getElem_mem hn'
  have hxb := hlb _ hxm
  have hxv := hla _ hxm
  generalize l[n] = s at hx hxm hxb hxv
  have c : decide ((n : Int) ≥ 0) = true := by simp
  have e : ((n + 1 : Nat) : Int) - 1 = (n : Int) := by omega
  have e2 : (hv.length : Int) - 1 = ((hv.length - 1 : Nat) : Int) := by omega
  have hget := wV hx
  have hgl := wV hi
  have d1 := mP (YE s low (by omega) (by omega))
  rw [nS (yl hxv).2.2.1 (yl hlv).2.2.1] at d1
  change zE (EV Tryz.prog wu) 97 [.t (.str s), .t (.str low)] = some (.t (.int .i64 (xF s low))) at d1
  have d2 := mP (c_mdC ns hl hb name hn l n s hx hxb)
  rw [show ns.any (fun x => afT x name s) = cC ns name s from rfl] at d2
  have IH := RN ns hl hb name low hn hlow hlv hv hi hp hhl l hll hlb hla n (by omega)
  rw [e, mdO, hx]
  simp only
  generalize xF s low = z at *
  generalize hv.length - 1 = hk at *
  cases q1 : decide (z ≥ 0) with
  | false =>
   simp only [cond_false]
   refine zD Tryz.func22 rfl rfl ?_
   simp (disch := ((try simp only [LL]); omega)) only [↓GO, ↓xG, GA, ren, zG, zd, refs, zb, cst, zl, zM, z7, E.load, E.store, zL, isC, bin, zN, zO, una, z8, za, zh, zP, blt, fnV, asArg, ze, zn, zo, zj, zm, zg, zk, zu, z6, zK, zJ, E.mkS, zc, unN, zQ, zi, zw, zq, zC, zI, zf, zR, zr, GS2, simprocAttr, GZ, c, hget, hgl, e2, d1, q1, zH, zB, y6]
  | true =>
   cases q2 : cC ns name s with
   | true =>
    rw [q2] at d2
    simp only [cond_true]
    refine zD Tryz.func22 rfl rfl ?_
    simp (disch := ((try simp only [LL]); omega)) only [↓GO, ↓xG, GA, ren, zG, zd, refs, zb, cst, zl, zM, z7, E.load, E.store, zL, isC, bin, zN, zO, una, z8, za, zh, zP, blt, fnV, asArg, ze, zn, zo, zj, zm, zg, zk, zu, z6, zK, zJ, E.mkS, zc, unN, zQ, zi, zw, zq, zC, zI, zf, zR, zr, GS2, simprocAttr, GZ, c, hget, hgl, e2, d1, d2, q1, zH, zB, y6, IH]
   | false =>
    rw [q2] at d2
    simp only [cond_true, cond_false]
    refine zD Tryz.func22 rfl rfl ?_
    simp (disch := ((try simp only [LL]); omega)) only [↓GO, ↓xG, GA, ren, zG, zd, refs, zb, cst, zl, zM, z7, E.load, E.store, zL, isC, bin, zN, zO, una, z8, za, zh, zP, blt, fnV, asArg, ze, zn, zo, zj, zm, zg, zk, zu, z6, zK, zJ, E.mkS, zc, unN, zQ, zi, zw, zq, zC, zI, zf, zR, zr, GS2, simprocAttr, GZ, c, hget, hgl, e2, d1, d2, q1, zH, zB, y6]
theorem c_mdI (g : y8) (hB : GB g) (ns : List zy) (hl : ns.length ≤ 1048576) (hb : ∀ n ∈ ns, n.yp ≤ 1048576) (name : Str) (hn : name.length ≤ 1048576) (vs : List Str) (hvl : vs.length ≤ 1048576) (hvb : ∀ s ∈ vs, s.length ≤ 1048576) :
 zE (EV Tryz.prog wu) 22 [.agg (g.enc.map .t), .t (.list 3 (zy.yb ns)), .t (.str name), .t (.list 1 (strs vs))] = some (.t (.str (ck g ns name vs))) := by
 have d1 := c_vsI g hB name
 have d2 := RY vs hvl (fun s hs => by have := hvb s hs; omega)
 unfold ck
 obtain ⟨a1, a2, a3⟩ := qM vs
 have hrl : (yK [] vs).length ≤ 1048576 := by have := uB vs []; simp only [List.length_nil] at this; omega
 obtain ⟨b1, b2⟩ := qV hB name
 have hvv := qM (yr g.packs name)
 have hvL : (wv g name).length ≤ 1048576 := by have := uB (yr g.packs name) []; unfold wv; simp only [List.length_nil] at this; omega
 have hvB : ∀ s ∈ wv g name, s.length ≤ 1048576 := fun s hs => by
  have := hvv.2.2 s hs
  obtain ⟨p, hp, rfl⟩ := List.mem_map.1 this
  have := hB.len.2.2 p (List.mem_filter.1 hp).1
  simp only [zX.yp] at this
  omega
 cases hlast : (wv g name).getLast? with
 | none =>
  have e := eF hlast
  rw [e, show strs [] = [] from rfl] at d1
  clear hB hb hvb hvB
  obtain ⟨top, packs⟩ := g
  simp only [y8.enc, List.map_cons, List.map_nil] at d1 ⊢
  apply zz
  refine zA rfl Tryz.func22 rfl (by kernel_rfl) ?_
  unfold Tryz.f22
  simp (disch := ((try simp only [LL]); omega)) only [↓GO, ↓xG, GA, ren, zG, zd, refs, zb, cst, zl, zM, z7, E.load, E.store, zL, isC, bin, zN, zO, una, z8, za, zh, zP, blt, fnV, asArg, ze, zn, zo, zj, zm, zg, zk, zu, z6, zK, zJ, E.mkS, zc, unN, zQ, zi, zw, zq, zC, zI, zf, zR, zr, GS2, simprocAttr, GZ, d1, d2, y6]
 | some low =>
  obtain ⟨h1, h2⟩ := xp hlast
  have hlm := List.mem_of_getElem? h1
  have L := RN ns hl hb name low hn (hvB low hlm) (hvv.1 low hlm) (wv g name) h1 h2 hvL (yK [] vs) hrl (fun s hs => hvb s (a3 s hs)) a1 (yK [] vs).length (Nat.le_refl _)
  rw [T9 ns name low (hvv.1 low hlm) (yK [] vs) a1 a2 _ (Nat.le_refl _), List.take_length] at L
  simp only
  rw [T8]
  have c1 : (((wv g name).length : Int) == 0) = false := by rw [beq_eq_false_iff_ne]; omega
  clear hB hb hvb hvB
  obtain ⟨top, packs⟩ := g
  simp only [y8.enc, List.map_cons, List.map_nil] at d1 ⊢
  generalize wv ⟨top, packs⟩ name = hv at *
  generalize yK [] vs = l at *
  cases hx : (l.filter (okV ns name low)).getLast? with
  | none =>
   rw [hx] at L
   simp only [Option.getD_none] at L ⊢
   apply zz
   refine zA rfl Tryz.func22 rfl (by kernel_rfl) ?_
   unfold Tryz.f22
   simp (disch := ((try simp only [LL]); omega)) only [↓GO, ↓xG, GA, ren, zG, zd, refs, zb, cst, zl, zM, z7, E.load, E.store, zL, isC, bin, zN, zO, una, z8, za, zh, zP, blt, fnV, asArg, ze, zn, zo, zj, zm, zg, zk, zu, z6, zK, zJ, E.mkS, zc, unN, zQ, zi, zw, zq, zC, zI, zf, zR, zr, GS2, simprocAttr, GZ, d1, d2, c1, L, zH, zB, y6]
  | some s =>
   rw [hx] at L
   simp only [Option.getD_some] at L ⊢
   apply zz
   refine zA rfl Tryz.func22 rfl (by kernel_rfl) ?_
   unfold Tryz.f22
   simp (disch := ((try simp only [LL]); omega)) only [↓GO, ↓xG, GA, ren, zG, zd, refs, zb, cst, zl, zM, z7, E.load, E.store, zL, isC, bin, zN, zO, una, z8, za, zh, zP, blt, fnV, asArg, ze, zn, zo, zj, zm, zg, zk, zu, z6, zK, zJ, E.mkS, zc, unN, zQ, zi, zw, zq, zC, zI, zf, zR, zr, GS2, simprocAttr, GZ, d1, d2, c1, L, zH, zB, y6]
theorem RM (ns : List zy) (hl : ns.length ≤ 1048576) (hb : ∀ n ∈ ns, n.yp ≤ 1048576) (name low : Str) (hn : name.length ≤ 1048576) (hlow : low.length ≤ 1048576) (l : List Str) (hll : l.length ≤ 1048576) (hlb : ∀ s ∈ l, s.length ≤ 1048576) : ∀ (rest pre : List Str) (b : Str), l = pre ++ rest →
 EV Tryz.prog wu (.loop 18 1018 0 [.t (.list 3 (zy.yb ns)), .t (.str name), .t (.str b), .ptr 0 0 0, .t (.list 1 (strs l)), .t (.int .i64 (pre.length : Int))] [.vs 4 [(zx low).1.enc.map .t]])
  = some (.loop (.exit 0) [.t (.str (mdR ns name low b rest))] [])
 | [], pre, b, h => by
  have c : decide ((pre.length : Int) < (l.length : Int)) = false := by simp [h]
  rw [mdR]
  generalize (zx low).1 = v
  simp only [Ver.enc, List.map_cons, List.map_nil]
  refine zD Tryz.func18 rfl rfl ?_
  simp (disch := ((try simp only [LL]); omega)) only [↓GO, ↓xG, GA, ren, zG, zd, refs, zb, cst, zl, zM, z7, E.load, E.store, zL, isC, bin, zN, zO, una, z8, za, zh, zP, blt, fnV, asArg, ze, zn, zo, zj, zm, zg, zk, zu, z6, zK, zJ, E.mkS, zc, unN, zQ, zi, zw, zq, zC, zI, zf, zR, zr, GS2, simprocAttr, GZ, c, zH, y6]
 | s :: rest, pre, b, h => by
  have c : decide ((pre.length : Int) < (l.length : Int)) = true := by simp [h]; omega
  have hget : (strs l)[pre.length]? = some [.str s] := wV (by rw [h]; simp)
  have hlen : pre.length + rest.length + 1 ≤ l.length := by rw [h]; simp; omega
  have hsb := hlb s (by rw [h]; simp)
  have d1 := mP (tV s (by omega))
  have d2 := mP (lQ (zx s).1 (zx low).1 (yO s (by omega)).1 (yO low (by omega)).1)
  have d3 := mP (QF ns hl hb name s hn hsb)
  rw [show (ns.any fun n => afT n name s) = cC ns name s from rfl] at d3
  unfold rvT at d1
  have IH := fun b' => RM ns hl hb name low hn hlow l hll hlb rest (pre ++ [s]) b' (by rw [h]; simp)
  rw [show ((pre ++ [s]).length : Int) = (pre.length : Int) + 1 by simp] at IH
  rw [mdR]
  unfold okV
  rw [show xF s low = uz (zx s).1 (zx low).1 from rfl]
  generalize uz (zx s).1 (zx low).1 = z at *
  generalize (zx s).2 = oks at *
  generalize (zx s).1 = vs at *
  generalize (zx low).1 = vl at *
  clear h hb hlb
  simp only [Ver.enc, List.map_cons, List.map_nil] at d1 d2 IH ⊢
  cases q1 : decide (z ≥ 0) with
  | false =>
   have IH1 := IH b
   simp only [Bool.false_and, cond_false]
   generalize mdR ns name low b rest = Z at *
   refine zD Tryz.func18 rfl rfl ?_
   simp (disch := ((try simp only [LL]); omega)) only [↓GO, ↓xG, GA, ren, zG, zd, refs, zb, cst, zl, zM, z7, E.load, E.store, zL, isC, bin, zN, zO, una, z8, za, zh, zP, blt, fnV, asArg, ze, zn, zo, zj, zm, zg, zk, zu, z6, zK, zJ, E.mkS, zc, unN, zQ, zi, zw, zq, zC, zI, zf, zR, zr, GS2, simprocAttr, GZ, c, hget, d1, d2, q1, zH, zB, y6, IH1]
  | true =>
   cases q2 : cC ns name s with
   | true =>
    rw [q2] at d3
    have IH1 := IH b
    simp only [Bool.not_true, Bool.and_false, cond_false]
    generalize mdR ns name low b rest = Z at *
    refine zD Tryz.func18 rfl rfl ?_
    simp (disch := ((try simp only [LL]); omega)) only [↓GO, ↓xG, GA, ren, zG, zd, refs, zb, cst, zl, zM, z7, E.load, E.store, zL, isC, bin, zN, zO, una, z8, za, zh, zP, blt, fnV, asArg, ze, zn, zo, zj, zm, zg, zk, zu, z6, zK, zJ, E.mkS, zc, unN, zQ, zi, zw, zq, zC, zI, zf, zR, zr, GS2, simprocAttr, GZ, c, hget, d1, d2, d3, q1, zH, zB, y6, IH1]
   | false =>
    rw [q2] at d3
    have IH1 := IH s
    simp only [Bool.not_false, Bool.and_true, cond_true]
    generalize mdR ns name low s rest = Z at *
    refine zD Tryz.func18 rfl rfl ?_
    simp (disch := ((try simp only [LL]); omega)) only [↓GO, ↓xG, GA, ren, zG, zd, refs, zb, cst, zl, zM, z7, E.load, E.store, zL, isC, bin, zN, zO, una, z8, za, zh, zP, blt, fnV, asArg, ze, zn, zo, zj, zm, zg, zk, zu, z6, zK, zJ, E.mkS, zc, unN, zQ, zi, zw, zq, zC, zI, zf, zR, zr, GS2, simprocAttr, GZ, c, hget, d1, d2, d3, q1, zH, zB, y6, IH1]
theorem c_mdR (g : y8) (hB : GB g) (ns : List zy) (hl : ns.length ≤ 1048576) (hb : ∀ n ∈ ns, n.yp ≤ 1048576) (name : Str) (hn : name.length ≤ 1048576) (vs : List Str) (hvl : vs.length ≤ 1048576) (hvb : ∀ s ∈ vs, s.length ≤ 1048576) :
 zE (EV Tryz.prog wu) 18 [.agg (g.enc.map .t), .t (.list 3 (zy.yb ns)), .t (.str name), .t (.list 1 (strs vs))] = some (.t (.str (ck g ns name vs))) := by
 have d1 := c_vsR g hB name
 have d2 := RX vs hvl (fun s hs => by have := hvb s hs; omega)
 unfold ck
 obtain ⟨a1, a2, a3⟩ := qM vs
 have hrl : (yK [] vs).length ≤ 1048576 := by have := uB vs []; simp only [List.length_nil] at this; omega
 have hvv := qM (yr g.packs name)
 have hvL : (wv g name).length ≤ 1048576 := by
  obtain ⟨b1, b2⟩ := qV hB name
  have := uB (yr g.packs name) []; unfold wv; simp only [List.length_nil] at this; omega
 have hvB : ∀ s ∈ wv g name, s.length ≤ 1048576 := fun s hs => by
  have := hvv.2.2 s hs
  obtain ⟨p, hp, rfl⟩ := List.mem_map.1 this
  have := hB.len.2.2 p (List.mem_filter.1 hp).1
  simp only [zX.yp] at this
  omega
 cases hlast : (wv g name).getLast? with
 | none =>
  have e := eF hlast
  rw [e, show strs [] = [] from rfl] at d1
  clear hB hb hvb hvB
  obtain ⟨top, packs⟩ := g
  simp only [y8.enc, List.map_cons, List.map_nil] at d1 ⊢
  apply zz
  refine zA rfl Tryz.func18 rfl (by kernel_rfl) ?_
  unfold Tryz.f18
  simp (disch := ((try simp only [LL]); omega)) only [↓GO, ↓xG, GA, ren, zG, zd, refs, zb, cst, zl, zM, z7, E.load, E.store, zL, isC, bin, zN, zO, una, z8, za, zh, zP, blt, fnV, asArg, ze, zn, zo, zj, zm, zg, zk, zu, z6, zK, zJ, E.mkS, zc, unN, zQ, zi, zw, zq, zC, zI, zf, zR, zr, GS2, simprocAttr, GZ, d1, d2, y6]
 | some low =>
  obtain ⟨h1, h2⟩ := xp hlast
  have hlm := List.mem_of_getElem? h1
  have hgl := wV h1
  have hlb := hvB low hlm
  have d3 := mP (tV low (by omega))
  unfold rvT at d3
  have L := RM ns hl hb name low hn hlb (yK [] vs) hrl (fun s hs => hvb s (a3 s hs)) (yK [] vs) [] [] rfl
  simp only [List.length_nil, Int.natCast_zero] at L
  have c1 : (((wv g name).length : Int) == 0) = false := by rw [beq_eq_false_iff_ne]; omega
  have e2 : ((wv g name).length : Int) - 1 = (((wv g name).length - 1 : Nat) : Int) := by omega
  clear hB hb hvb hvB
  obtain ⟨top, packs⟩ := g
  simp only [y8.enc, List.map_cons, List.map_nil] at d1 ⊢
  generalize wv ⟨top, packs⟩ name = hv at *
  generalize yK [] vs = l at *
  generalize mdR ns name low [] l = Z at *
  generalize hv.length - 1 = hk at *
  generalize (zx low).2 = okl at *
  generalize (zx low).1 = vl at *
  simp only [Ver.enc, List.map_cons, List.map_nil] at d3 L
  apply zz
  refine zA rfl Tryz.func18 rfl (by kernel_rfl) ?_
  unfold Tryz.f18
  simp (disch := ((try simp only [LL]); omega)) only [↓GO, ↓xG, GA, ren, zG, zd, refs, zb, cst, zl, zM, z7, E.load, E.store, zL, isC, bin, zN, zO, una, z8, za, zh, zP, blt, fnV, asArg, ze, zn, zo, zj, zm, zg, zk, zu, z6, zK, zJ, E.mkS, zc, unN, zQ, zi, zw, zq, zC, zI, zf, zR, zr, GS2, simprocAttr, GZ, d1, d2, d3, c1, e2, hgl, L, zH, zB, y6]
end Go.Proofs.YtijninlbpifonaaGreatDoor
/- The law of Mend. Conditions: those of each lemma. -/
namespace Go.Proofs.YtijninlbpifonaaGreatDoor
open E
set_option linter.unusedSimpArgs false
set_option linter.unusedVariables false
set_option maxRecDepth 100000
theorem Ua {l : List Str} {s : Str} (h : s ∈ l) : s.length ≤ yj l := by
 induction l with
 | nil => simp at h
 | cons x r ih =>
  simp only [yj]
  rcases List.mem_cons.1 h with rfl | h
  · omega
  · have := ih h; omega
set_option maxHeartbeats 16000000 in
theorem ia (g : y8) (ns : List zy) (name : Str) (vs : List Str) (ho : g.ok) (hon : ∀ n ∈ ns, n.ok) (hn : name.length ≤ 1048576) (hb : g.yp + (ns.length + zy.ya ns) + (vs.length + yj vs) ≤ 1048576) :
 EV Tryz.prog wu (.call 3 [.agg (g.enc.map .t), .t (.list 3 (zy.yb ns)), .t (.str name), .t (.list 1 (strs vs))] []) = some (.call (.t (.bool true)) []) := by
 have hB : GB g := by unfold GB; omega
 have hnb : ∀ n ∈ ns, n.yp ≤ 1048576 := fun n hn => by have := zy.yw hn; omega
 have hvb : ∀ s ∈ vs, s.length ≤ 1048576 := fun s hs => by have := Ua hs; omega
 have hsz := jI g ho 1048576 (by omega) (by omega)
 rw [xO (by omega)] at hsz
 have hsz2 := si ns (by omega) (fun n hn => qm n (hon n hn)) (1048576 - (g.yp : Int)) (by omega) (by omega)
 rw [xO (by omega)] at hsz2
 have hsz3 := vX vs (by omega) (fun s hs => by have := hvb s hs; omega) (1048576 - (g.yp : Int) - ((ns.length + zy.ya ns : Nat) : Int)) (by omega) (by omega)
 rw [xO (by omega)] at hsz3
 have c1 : decide ((name.length : Int) > 1048576) = false := by apply decide_eq_false; omega
 have c2 : decide (1048576 - (g.yp : Int) < 0) = false := by apply decide_eq_false; omega
 have c3 : decide (1048576 - (g.yp : Int) - ((ns.length + zy.ya ns : Nat) : Int) < 0) = false := by apply decide_eq_false; omega
 have c4 : decide (1048576 - (g.yp : Int) - ((ns.length + zy.ya ns : Nat) : Int) - ((vs.length + yj vs : Nat) : Int) < 0) = false := by apply decide_eq_false; omega
 replace hsz := mP hsz
 replace hsz2 := mP hsz2
 replace hsz3 := mP hsz3
 have hto := Qw g (by omega)
 have heqG := Xw g (by omega)
 unfold G7 at hto
 unfold gi at heqG
 replace hto := mP hto
 replace heqG := mP heqG
 have hno := mP (gX ns (by omega) (fun n hn => bh n (hnb n hn)))
 have heqN := mP (gY ns (by omega) (fun n hn => bm n (hnb n hn)))
 have hst := mP (gW vs (by omega))
 have heqS := mP (sj vs (by omega))
 have hR := c_mdR g hB ns (by omega) hnb name hn vs (by omega) hvb
 have hI := c_mdI g hB ns (by omega) hnb name hn vs (by omega) hvb
 generalize ck g ns name vs = Z at *
 clear ho hon hb hnb hvb hB hn
 obtain ⟨top, packs⟩ := g
 generalize (y8.mk top packs).yp = bt at *
 generalize zy.ya ns = bn at *
 generalize yj vs = bv at *
 simp only [y8.enc, List.map_cons, List.map_nil] at hsz hto heqG hR hI ⊢
 refine zA rfl Tryz.func3 rfl (by kernel_rfl) ?_
 unfold Tryz.f3
 simp (disch := ((try simp only [LL]); omega)) only [↓GO, ↓xG, GA, ren, zG, zd, refs, zb, cst, zl, zM, z7, E.load, E.store, zL, isC, bin, zN, zO, una, z8, za, zh, zP, blt, fnV, asArg, ze, zn, zo, zj, zm, zg, zk, zu, z6, zK, zJ, E.mkS, zc, unN, zQ, zi, zw, zq, zC, zI, zf, zR, zr, GS2, simprocAttr, GZ, hsz, hsz2, hsz3, c1, c2, c3, c4, hto, hno, hst, heqG, heqN, heqS, hR, hI, bne_self_eq_false, y6]
theorem Xu (g : y8) (ns : List zy) (name : Str) (vs : List Str) (ho : g.ok) (hl : ns.length ≤ 9223372036854775807) (hon : ∀ n ∈ ns, n.ok) (hnl : name.length ≤ 9223372036854775807) (hvl : vs.length ≤ 9223372036854775807) (hvo : ∀ s ∈ vs, s.length ≤ 9223372036854775807) :
 EV Tryz.prog wu (.call 3 [.agg (g.enc.map .t), .t (.list 3 (zy.yb ns)), .t (.str name), .t (.list 1 (strs vs))] []) = some (.call (.t (.bool true)) []) := by
 by_cases hn : name.length ≤ 1048576
 · have c1 : decide ((name.length : Int) > 1048576) = false := by apply decide_eq_false; omega
   have hsz := jI g ho 1048576 (by omega) (by omega)
   by_cases hb1 : g.yp ≤ 1048576
   · have c2 : decide (1048576 - (g.yp : Int) < 0) = false := by apply decide_eq_false; omega
     by_cases hb2 : g.yp + (ns.length + zy.ya ns) ≤ 1048576
     · by_cases hb : g.yp + (ns.length + zy.ya ns) + (vs.length + yj vs) ≤ 1048576
       · exact ia g ns name vs ho hon hn hb
       · rw [xO (by omega)] at hsz
         have hsz2 := si ns hl (fun n hn => qm n (hon n hn)) (1048576 - (g.yp : Int)) (by omega) (by omega)
         rw [xO (by omega)] at hsz2
         have c3 : decide (1048576 - (g.yp : Int) - ((ns.length + zy.ya ns : Nat) : Int) < 0) = false := by apply decide_eq_false; omega
         have hsz3 := vX vs hvl hvo (1048576 - (g.yp : Int) - ((ns.length + zy.ya ns : Nat) : Int)) (by omega) (by omega)
         have hle : left (1048576 - (g.yp : Int) - ((ns.length + zy.ya ns : Nat) : Int)) (vs.length + yj vs) = -1 := if_pos (by omega)
         rw [hle] at hsz3
         replace hsz := mP hsz
         replace hsz2 := mP hsz2
         replace hsz3 := mP hsz3
         clear hb hle ho hon hvo
         obtain ⟨top, packs⟩ := g
         generalize (y8.mk top packs).yp = bt at *
         generalize zy.ya ns = bn at *
         generalize yj vs = bv at *
         simp only [y8.enc, List.map_cons, List.map_nil] at hsz ⊢
         refine zA rfl Tryz.func3 rfl (by kernel_rfl) ?_
         unfold Tryz.f3
         simp (disch := ((try simp only [LL]); omega)) only [↓GO, ↓xG, GA, ren, zG, zd, refs, zb, cst, zl, zM, z7, E.load, E.store, zL, isC, bin, zN, zO, una, z8, za, zh, zP, blt, fnV, asArg, ze, zn, zo, zj, zm, zg, zk, zu, z6, zK, zJ, E.mkS, zc, unN, zQ, zi, zw, zq, zC, zI, zf, zR, zr, GS2, simprocAttr, GZ, hsz, hsz2, hsz3, c1, c2, c3]
     · rw [xO (by omega)] at hsz
       have hsz2 := si ns hl (fun n hn => qm n (hon n hn)) (1048576 - (g.yp : Int)) (by omega) (by omega)
       have hle : left (1048576 - (g.yp : Int)) (ns.length + zy.ya ns) = -1 := if_pos (by omega)
       rw [hle] at hsz2
       replace hsz := mP hsz
       replace hsz2 := mP hsz2
       clear hb2 hle ho hon hvo
       obtain ⟨top, packs⟩ := g
       generalize (y8.mk top packs).yp = bt at *
       simp only [y8.enc, List.map_cons, List.map_nil] at hsz ⊢
       refine zA rfl Tryz.func3 rfl (by kernel_rfl) ?_
       unfold Tryz.f3
       simp (disch := ((try simp only [LL]); omega)) only [↓GO, ↓xG, GA, ren, zG, zd, refs, zb, cst, zl, zM, z7, E.load, E.store, zL, isC, bin, zN, zO, una, z8, za, zh, zP, blt, fnV, asArg, ze, zn, zo, zj, zm, zg, zk, zu, z6, zK, zJ, E.mkS, zc, unN, zQ, zi, zw, zq, zC, zI, zf, zR, zr, GS2, simprocAttr, GZ, hsz, hsz2, c1, c2]
   · have hle : left 1048576 g.yp = -1 := if_pos (by omega)
     rw [hle] at hsz
     replace hsz := mP hsz
     clear hb1 hle ho hon hvo
     obtain ⟨top, packs⟩ := g
     simp only [y8.enc, List.map_cons, List.map_nil] at hsz ⊢
     refine zA rfl Tryz.func3 rfl (by kernel_rfl) ?_
     unfold Tryz.f3
     simp (disch := ((try simp only [LL]); omega)) only [↓GO, ↓xG, GA, ren, zG, zd, refs, zb, cst, zl, zM, z7, E.load, E.store, zL, isC, bin, zN, zO, una, z8, za, zh, zP, blt, fnV, asArg, ze, zn, zo, zj, zm, zg, zk, zu, z6, zK, zJ, E.mkS, zc, unN, zQ, zi, zw, zq, zC, zI, zf, zR, zr, GS2, simprocAttr, GZ, hsz, c1]
 · have c1 : decide ((name.length : Int) > 1048576) = true := by apply decide_eq_true; omega
   clear ho hon hvo
   obtain ⟨top, packs⟩ := g
   simp only [y8.enc, List.map_cons, List.map_nil]
   refine zA rfl Tryz.func3 rfl (by kernel_rfl) ?_
   unfold Tryz.f3
   simp (disch := ((try simp only [LL]); omega)) only [↓GO, ↓xG, GA, ren, zG, zd, refs, zb, cst, zl, zM, z7, E.load, E.store, zL, isC, bin, zN, zO, una, z8, za, zh, zP, blt, fnV, asArg, ze, zn, zo, zj, zm, zg, zk, zu, z6, zK, zJ, E.mkS, zc, unN, zQ, zi, zw, zq, zC, zI, zf, zR, zr, GS2, simprocAttr, GZ, c1]
end Go.Proofs.YtijninlbpifonaaGreatDoor
/- The law of Mend at what is handed in. Conditions: none. -/
namespace Go.Proofs.YtijninlbpifonaaGreatDoor
open E
set_option linter.unusedSimpArgs false
set_option linter.unusedVariables false
set_option maxRecDepth 100000
theorem Sr (xs : List V) (h : WTA Tryz.prog [25, 26, 9, 22] xs) : EV Tryz.prog wu (.call 3 xs []) = some (.call (.t (.bool true)) []) := by
 obtain ⟨cs, v, vs, rfl, h1, h2, h3⟩ := h.qZ
 obtain ⟨cs1, v1, vs1, rfl, k1, k2, k3⟩ := h3.qZ
 obtain ⟨cs2, v2, vs2, rfl, l1, l2, l3⟩ := k3.qZ
 obtain ⟨cs3, v3, vs3, rfl, m1, m2, m3⟩ := l3.qZ
 have := m3.SG
 subst this
 obtain ⟨g, rfl, ho⟩ := Um h1
 obtain ⟨ns, rfl, hl, hon⟩ := bx k1
 obtain ⟨name, rfl, hnl⟩ := l1.wW Tryz.underlying9
 obtain ⟨ks, rfl, hvl, hvo⟩ := gf m1
 obtain ⟨top, packs⟩ := g
 have e : zZ Tryz.prog 25 = true := by kernel_rfl
 have e1 : zZ Tryz.prog 26 = false := by kernel_rfl
 have e2 : zZ Tryz.prog 9 = false := by kernel_rfl
 have e3 : zZ Tryz.prog 22 = false := by kernel_rfl
 rw [e] at h2
 rw [e1] at k2
 rw [e2] at l2
 rw [e3] at m2
 simp [zh, y8.enc] at h2 k2 l2 m2
 subst h2 k2 l2 m2
 exact Xu ⟨top, packs⟩ ns name ks ho hl hon hnl hvl hvo
end Go.Proofs.YtijninlbpifonaaGreatDoor

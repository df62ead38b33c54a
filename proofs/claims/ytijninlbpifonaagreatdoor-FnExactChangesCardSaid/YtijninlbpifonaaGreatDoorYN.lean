/- Joined: K29 V14 K34 K35 B14 W12. Conditions: those of each lemma. -/
import Derived.Test.YtijninlbpifonaaGreatDoorYM
import Derived.Test.YtijninlbpifonaaGreatDoorYL
import Derived.Test.YtijninlbpifonaaGreatDoorYJ
set_option linter.unusedVariables false
set_option linter.unusedSimpArgs false
namespace Go.Proofs.YtijninlbpifonaaGreatDoor
open E
set_option linter.unusedSimpArgs false
set_option linter.unusedVariables false
set_option maxRecDepth 100000
theorem Qd {l : List Str} (hl : ∀ s ∈ l, s.length ≤ 1048700) : (l.filter isV).all vok = true := by
 rw [List.all_eq_true]
 intro s hs
 obtain ⟨h1, h2⟩ := List.mem_filter.1 hs
 unfold vok
 rw [h2]
 simpa using hl s h1
theorem pG : ∀ (l out : List Str), (xa out l).length ≤ out.length + l.length
 | [], out => by simp [xa]
 | s :: r, out => by
  rw [xa]
  have h := pG r (cond (isV s) (tK out s) out)
  have h2 : (cond (isV s) (tK out s) out).length ≤ out.length + 1 := by
   cases isV s with
   | false => simp
   | true =>
    rw [cond_true]
    unfold tK
    cases Yr out s with
    | true => simp
    | false =>
     have := iT out s
     simp only [cond_false, List.length_append, List.length_take, List.length_cons, List.length_drop]; omega
  simp only [List.length_cons]; omega
theorem Ss (l : List Str) (hl : l.length ≤ 1048576) (hs : ∀ s ∈ l, s.length ≤ 1048700) : ∀ (rest pre : List Str) (acc : List Str) (m : Nat) (cap : Option Nat), l = pre ++ rest → m = acc.length → m + rest.length ≤ 1073741824 → ∃ cap',
 EV Tryz.prog xp (.loop 96 58 0 [.sl 0 0 m cap, .t (.list 1 (strs l)), .t (.int .i64 (l.length : Int)), .t (.int .i64 (pre.length : Int))] [.ts 1 (strs acc)])
  = some (.loop (.exit 0) [.sl 0 0 (m + (rest.filter isV).length) cap'] [.ts 1 (strs (acc ++ rest.filter isV))])
 | [], pre, acc, m, cap, h, hm, hmM => by
  have c : decide ((pre.length : Int) < (l.length : Int)) = false := by simp [h]
  refine ⟨cap, ?_⟩
  simp only [List.filter_nil, List.append_nil, List.length_nil, Nat.add_zero]
  refine zh Tryz.func96 rfl rfl ?_
  simp (disch := ((try simp only [LL]); omega)) only [↓GO, ↓yx, GA, GX, ren, zm, z8, refs, z7, cst, zo, isC, bin, una, z6, zc, blt, asArg, ze, zb, zf, z1, E.mkS, unN, zd, zn, za, GS2, simprocAttr, GZ, c, zD]
 | s :: rest, pre, acc, m, cap, h, hm, hmM => by
  have c : decide ((pre.length : Int) < (l.length : Int)) = true := by simp [h]; omega
  have hget : (strs l)[pre.length]? = some [.str s] := yV (by rw [h]; simp)
  have hlen : pre.length + rest.length + 1 ≤ l.length := by rw [h]; simp; omega
  have d1 := mP (RZ s (hs s (by rw [h]; simp)))
  have hsl : (strs acc).length = m := by rw [zj, hm]
  simp only [List.length_cons] at hmM
  rw [List.filter_cons]
  cases q : isV s with
  | true =>
   rw [q] at d1
   obtain ⟨cap', IH⟩ := Ss l hl hs rest (pre ++ [s]) (acc ++ [s]) (m + 1) none (by rw [h]; simp) (by simp [hm]) (by omega)
   rw [show ((pre ++ [s]).length : Int) = (pre.length : Int) + 1 by simp] at IH
   rw [show strs (acc ++ [s]) = strs acc ++ [[.str s]] by simp [strs]] at IH
   refine ⟨cap', ?_⟩
   simp only [if_true, List.length_cons]
   rw [show m + ((rest.filter isV).length + 1) = m + 1 + (rest.filter isV).length by omega, show acc ++ s :: rest.filter isV = (acc ++ [s]) ++ rest.filter isV by simp]
   clear h hs
   generalize (acc ++ [s]) ++ rest.filter isV = Z at *
   refine zh Tryz.func96 rfl rfl ?_
   simp (disch := ((try simp only [LL]); omega)) only [↓GO, ↓yx, GA, GX, ren, zm, z8, refs, z7, cst, zo, isC, bin, una, z6, zc, blt, asArg, ze, zb, zf, z1, E.mkS, unN, zd, zn, za, GS2, simprocAttr, GZ, c, hget, d1, zi, hsl, zD, IH, xf]
  | false =>
   rw [q] at d1
   obtain ⟨cap', IH⟩ := Ss l hl hs rest (pre ++ [s]) acc m cap (by rw [h]; simp) hm (by omega)
   rw [show ((pre ++ [s]).length : Int) = (pre.length : Int) + 1 by simp] at IH
   refine ⟨cap', ?_⟩
   simp only [Bool.false_eq_true, if_false]
   clear h hs
   generalize acc ++ rest.filter isV = Z at *
   refine zh Tryz.func96 rfl rfl ?_
   simp (disch := ((try simp only [LL]); omega)) only [↓GO, ↓yx, GA, GX, ren, zm, z8, refs, z7, cst, zo, isC, bin, una, z6, zc, blt, asArg, ze, zb, zf, z1, E.mkS, unN, zd, zn, za, GS2, simprocAttr, GZ, c, hget, d1, zi, zD, IH]
theorem c_svI (l : List Str) (hl : l.length ≤ 1048576) (hs : ∀ s ∈ l, s.length ≤ 1048700) : zk (EV Tryz.prog xp) 96 [.t (.list 1 (strs l))] = some (.t (.list 1 (strs (xa [] l)))) := by
 obtain ⟨cap, L⟩ := Ss l hl hs l [] [] 0 (some 0) rfl rfl (by omega)
 have hk := Qd hs
 have hfl : (l.filter isV).length ≤ 1048576 := Nat.le_trans (List.length_filter_le _ _) hl
 have d1 := RR (l.filter isV) hk (by omega) (l.filter isV).length rfl cap
 have hsl := pF (l.filter isV) hk
 have d2 := mO (Sg (xU (l.filter isV) hk) (by omega) (l.filter isV).length hsl.symm cap)
 have hcl := qi (xU (l.filter isV) hk)
 have hrl := pV (xU (l.filter isV) hk)
 have ht : (strs (vY (xU (l.filter isV) hk))).take (Lib.compact (xU (l.filter isV) hk)).length = strs (Lib.compact (xU (l.filter isV) hk)) := by
  unfold vY strs
  rw [← List.map_take, List.take_left]
 have e : Lib.compact (xU (l.filter isV) hk) = xa [] l := by
  rw [jE]
  exact YY l _ (cJ _ hk) (YZ _ hk)
 rw [e] at d2 ht hcl
 simp only [List.length_nil, Int.natCast_zero, Nat.zero_add, List.nil_append, show strs [] = [] from rfl] at L
 rw [hsl] at hcl hrl
 generalize vY (xU (l.filter isV) hk) = C at *
 generalize xU (l.filter isV) hk = B at *
 generalize xa [] l = R at *
 generalize l.filter isV = A at *
 have hCl : (strs C).length = A.length := by rw [zj, hrl]
 apply zq
 refine zr rfl Tryz.func96 rfl (by kernel_rfl) ?_
 unfold Tryz.f96
 simp (disch := ((try simp only [LL]); omega)) only [↓GO, ↓yx, GA, GX, ren, zm, z8, refs, z7, cst, zo, isC, bin, una, z6, zc, blt, asArg, ze, zb, zf, z1, E.mkS, unN, zd, zn, za, GS2, simprocAttr, GZ, L, d1, d2, ht, hCl, zj, List.drop_zero, zD]
/-- where a version goes -/
theorem TS (out : List Str) (hol : out.length ≤ 1048576) (ho : ∀ s ∈ out, s.length ≤ 1048700) (s : Str) (hsl : s.length ≤ 1048700) (t0 t4 : T) (m : Nat) (hm : m = out.length) (cap : Option Nat) : ∀ (rest pre : List Str), out = pre ++ rest →
 EV Tryz.prog xp (.loop 91 29852 0 [.t t0, .sl 0 0 m cap, .t t4, .ptr 1 0 0, .t (.int .i64 (pre.length : Int))] [.ts 1 (strs out), .vs 4 [(zE s).1.enc.map .t]])
  = some (.loop (.exit 2) [.t t0, .sl 0 0 m cap, .t t4, .t (.int .i64 ((pre.length + xj rest s : Nat) : Int))] [.ts 1 (strs out)])
 | [], pre, h => by
  have c : decide ((pre.length : Int) < (m : Int)) = false := by simp [hm, h]
  rw [show xj [] s = 0 from rfl, Nat.add_zero]
  generalize (zE s).1 = v
  simp only [Ver.enc, List.map_cons, List.map_nil]
  refine zh Tryz.func91 rfl rfl ?_
  simp (disch := ((try simp only [LL]); omega)) only [↓GO, ↓yx, GA, GX, ren, zm, z8, refs, z7, cst, zo, isC, bin, una, z6, zc, blt, asArg, ze, zb, zf, z1, E.mkS, unN, zd, zn, za, GS2, simprocAttr, GZ, c, zD]
 | x :: rest, pre, h => by
  have c : decide ((pre.length : Int) < (m : Int)) = true := by simp [hm, h]; omega
  have c0 : decide ((0 : Int) ≤ (pre.length : Int)) = true := by simp
  have hget : (strs out)[pre.length]? = some [.str x] := yV (by rw [h]; simp)
  have hlen : pre.length + rest.length + 1 ≤ out.length := by rw [h]; simp; omega
  have hx := ho x (by rw [h]; simp)
  have d1 := mP (iH x hx)
  have d2 := mP (aN (zE x).1 (zE s).1 (xG x hx).1 (xG s hsl).1)
  have IH := TS out hol ho s hsl t0 t4 m hm cap rest (pre ++ [x]) (by rw [h]; simp)
  rw [show ((pre ++ [x]).length : Int) = (pre.length : Int) + 1 by simp, show (pre ++ [x]).length + xj rest s = pre.length + (xj rest s + 1) by simp; omega] at IH
  rw [xj, show xi x s = mL (zE x).1 (zE s).1 from rfl]
  unfold rvT at d1
  generalize mL (zE x).1 (zE s).1 = n at *
  generalize (zE x).2 = okx at *
  generalize (zE x).1 = vx at *
  generalize (zE s).1 = v at *
  clear h ho
  simp only [Ver.enc, List.map_cons, List.map_nil] at d1 d2 IH ⊢
  cases q : decide (n ≥ 0) with
  | true =>
   simp only [cond_true, Nat.add_zero]
   refine zh Tryz.func91 rfl rfl ?_
   simp (disch := ((try simp only [LL]); omega)) only [↓GO, ↓yx, GA, GX, ren, zm, z8, refs, z7, cst, zo, isC, bin, una, z6, zc, blt, asArg, ze, zb, zf, z1, E.mkS, unN, zd, zn, za, GS2, simprocAttr, GZ, c, c0, hget, d1, d2, q, zD]
  | false =>
   simp only [cond_false]
   refine zh Tryz.func91 rfl rfl ?_
   simp (disch := ((try simp only [LL]); omega)) only [↓GO, ↓yx, GA, GX, ren, zm, z8, refs, z7, cst, zo, isC, bin, una, z6, zc, blt, asArg, ze, zb, zf, z1, E.mkS, unN, zd, zn, za, GS2, simprocAttr, GZ, c, c0, hget, d1, d2, q, zi, zD, IH]
theorem Ua {out : List Str} {s : Str} (h : out[xj out s]? = some s) : tK out s = out := by
 unfold tK Yr
 rw [h]; simp
theorem ZS {out : List Str} {s : Str} (h : out[xj out s]? ≠ some s) : tK out s = out.take (xj out s) ++ s :: out.drop (xj out s) := by
 unfold tK Yr
 have : (out[xj out s]? == some s) = false := by simpa using h
 rw [this]; rfl
theorem YD (l : List Str) (hl : l.length ≤ 1048576) (hs : ∀ s ∈ l, s.length ≤ 1048700) : ∀ (rest pre : List Str) (out : List Str) (m : Nat) (cap : Option Nat), l = pre ++ rest → m = out.length → m + rest.length ≤ 1048576 → (∀ s ∈ out, s.length ≤ 1048700) → ∃ cap',
 EV Tryz.prog xp (.loop 91 58 0 [.t (.list 1 (strs l)), .sl 0 0 m cap, .t (.int .i64 (pre.length : Int))] [.ts 1 (strs out)])
  = some (.loop (.exit 0) [.sl 0 0 (xa out rest).length cap'] [.ts 1 (strs (xa out rest))])
 | [], pre, out, m, cap, h, hm, hmM, ho => by
  have c : decide ((pre.length : Int) < (l.length : Int)) = false := by simp [h]
  refine ⟨cap, ?_⟩
  rw [xa, ← hm]
  refine zh Tryz.func91 rfl rfl ?_
  simp (disch := ((try simp only [LL]); omega)) only [↓GO, ↓yx, GA, GX, ren, zm, z8, refs, z7, cst, zo, isC, bin, una, z6, zc, blt, asArg, ze, zb, zf, z1, E.mkS, unN, zd, zn, za, GS2, simprocAttr, GZ, c, zj, zD]
 | s :: rest, pre, out, m, cap, h, hm, hmM, ho => by
  have c : decide ((pre.length : Int) < (l.length : Int)) = true := by simp [h]; omega
  have hget : (strs l)[pre.length]? = some [.str s] := yV (by rw [h]; simp)
  have hlen : pre.length + rest.length + 1 ≤ l.length := by rw [h]; simp; omega
  have hsb := hs s (by rw [h]; simp)
  have d1 := mP (iH s hsb)
  unfold rvT at d1
  simp only [List.length_cons] at hmM
  rw [xa]
  cases q : isV s with
  | false =>
   have q' : (zE s).2 = false := q
   rw [q'] at d1
   obtain ⟨cap', IH⟩ := YD l hl hs rest (pre ++ [s]) out m cap (by rw [h]; simp) hm (by omega) ho
   rw [show ((pre ++ [s]).length : Int) = (pre.length : Int) + 1 by simp] at IH
   refine ⟨cap', ?_⟩
   rw [cond_false]
   clear h hs
   generalize xa out rest = Z at *
   generalize (zE s).1 = v at *
   simp only [Ver.enc, List.map_cons, List.map_nil] at d1
   refine zh Tryz.func91 rfl rfl ?_
   simp (disch := ((try simp only [LL]); omega)) only [↓GO, ↓yx, GA, GX, ren, zm, z8, refs, z7, cst, zo, isC, bin, una, z6, zc, blt, asArg, ze, zb, zf, z1, E.mkS, unN, zd, zn, za, GS2, simprocAttr, GZ, c, hget, d1, zj, zi, zD, IH]
  | true =>
   have q' : (zE s).2 = true := q
   rw [q'] at d1
   have L := TS out (by omega) ho s hsb (.list 1 (strs l)) (.int .i64 (pre.length : Int)) m hm cap out [] rfl
   simp only [List.length_nil, Int.natCast_zero, Nat.zero_add] at L
   have hp := iT out s
   rw [← hm] at hp
   have c0 : decide ((0 : Int) ≤ ((xj out s : Nat) : Int)) = true := by simp
   have hsl : (strs out).length = m := by rw [zj, hm]
   rw [cond_true]
   by_cases hx : out[xj out s]? = some s
   · have hgx := yV hx
     have hlt : xj out s < m := by rw [hm]; exact (List.getElem?_eq_some_iff.1 hx).1
     have c1 : decide (((xj out s : Nat) : Int) < (m : Int)) = true := by simpa using hlt
     rw [Ua hx]
     obtain ⟨cap', IH⟩ := YD l hl hs rest (pre ++ [s]) out m cap (by rw [h]; simp) hm (by omega) ho
     rw [show ((pre ++ [s]).length : Int) = (pre.length : Int) + 1 by simp] at IH
     refine ⟨cap', ?_⟩
     clear h hs ho hx
     generalize xa out rest = Z at *
     generalize (zE s).1 = v at *
     generalize xj out s = p at *
     simp only [Ver.enc, List.map_cons, List.map_nil] at d1 L
     refine zh Tryz.func91 rfl rfl ?_
     simp (disch := ((try simp only [LL]); omega)) only [↓GO, ↓yx, GA, GX, ren, zm, z8, refs, z7, cst, zo, isC, bin, una, z6, zc, blt, asArg, ze, zb, zf, z1, E.mkS, unN, zd, zn, za, GS2, simprocAttr, GZ, c, c0, c1, hget, hgx, d1, L, zj, zi, beq_self_eq_true, zD, IH]
   · have e : strs (tK out s) = ((strs out).take (xj out s) ++ [[.str s]]) ++ (strs out).drop (xj out s) := by rw [ZS hx]; simp [strs]
     have hil : (tK out s).length = m + 1 := by
      rw [ZS hx]
      simp only [List.length_append, List.length_take, List.length_cons, List.length_drop]; omega
     have hA1 : ((strs out).take (xj out s)).length = xj out s := by rw [List.length_take, hsl]; omega
     have hB0 : ((strs out).drop (xj out s)).take (m - xj out s) = (strs out).drop (xj out s) := List.take_of_length_le (by rw [List.length_drop, hsl]; omega)
     have hB1 : ((strs out).drop (xj out s)).length = m - xj out s := by rw [List.length_drop, hsl]
     have hE : xj out s + 1 + (m - xj out s) = m + 1 := by omega
     obtain ⟨cap', IH⟩ := YD l hl hs rest (pre ++ [s]) (tK out s) (m + 1) none (by rw [h]; simp) hil.symm (by omega) (fun y hy => by
      rcases (sy out s y).1 hy with hy | rfl
      · exact ho y hy
      · exact hsb)
     rw [show ((pre ++ [s]).length : Int) = (pre.length : Int) + 1 by simp, e] at IH
     refine ⟨cap', ?_⟩
     generalize xa (tK out s) rest = Z at *
     generalize (zE s).1 = v at *
     cases hy : out[xj out s]? with
     | none =>
      have hge : m ≤ xj out s := by rw [hm]; exact List.getElem?_eq_none_iff.1 hy
      have c1 : decide (((xj out s : Nat) : Int) < (m : Int)) = false := by simpa using hge
      clear h hs ho hx hy e hil
      generalize xj out s = p at *
      generalize hA : (strs out).take p = A at *
      generalize hB : (strs out).drop p = B at *
      have hC : (A ++ [[T.str s]]).length = p + 1 := by simp [hA1]
      simp only [Ver.enc, List.map_cons, List.map_nil] at d1 L
      refine zh Tryz.func91 rfl rfl ?_
      simp (disch := ((try simp only [LL]); omega)) only [↓GO, ↓yx, GA, GX, ren, zm, z8, refs, z7, cst, zo, isC, bin, una, z6, zc, blt, asArg, ze, zb, zf, z1, E.mkS, unN, zd, zn, za, GS2, simprocAttr, GZ, c, c0, c1, hget, d1, L, zj, hsl, Nat.sub_zero, hA, hA1, hC, hB, hB0, hB1, hE, List.nil_append, Nat.zero_add, zi, zD, IH, xf]
      refine yJ (by kernel_rfl) ?_
      first | exact IH | simp (disch := ((try simp only [LL]); omega)) only [↓GO, ↓yx, GA, GX, ren, zm, z8, refs, z7, cst, zo, isC, bin, una, z6, zc, blt, asArg, ze, zb, zf, z1, E.mkS, unN, zd, zn, za, GS2, simprocAttr, GZ, IH, zi]
     | some x =>
      have hgx := yV hy
      have hlt : xj out s < m := by rw [hm]; exact (List.getElem?_eq_some_iff.1 hy).1
      have c1 : decide (((xj out s : Nat) : Int) < (m : Int)) = true := by simpa using hlt
      have qx : (x == s) = false := by rw [beq_eq_false_iff_ne]; intro e'; rw [hy, e'] at hx; exact hx rfl
      clear h hs ho hx hy e hil
      generalize xj out s = p at *
      generalize hA : (strs out).take p = A at *
      generalize hB : (strs out).drop p = B at *
      have hC : (A ++ [[T.str s]]).length = p + 1 := by simp [hA1]
      simp only [Ver.enc, List.map_cons, List.map_nil] at d1 L
      refine zh Tryz.func91 rfl rfl ?_
      simp (disch := ((try simp only [LL]); omega)) only [↓GO, ↓yx, GA, GX, ren, zm, z8, refs, z7, cst, zo, isC, bin, una, z6, zc, blt, asArg, ze, zb, zf, z1, E.mkS, unN, zd, zn, za, GS2, simprocAttr, GZ, c, c0, c1, hget, hgx, qx, d1, L, zj, hsl, Nat.sub_zero, hA, hA1, hC, hB, hB0, hB1, hE, List.nil_append, Nat.zero_add, zi, zD, IH, xf]
      refine yJ (by kernel_rfl) ?_
      first | exact IH | simp (disch := ((try simp only [LL]); omega)) only [↓GO, ↓yx, GA, GX, ren, zm, z8, refs, z7, cst, zo, isC, bin, una, z6, zc, blt, asArg, ze, zb, zf, z1, E.mkS, unN, zd, zn, za, GS2, simprocAttr, GZ, IH, zi]
theorem c_svR (l : List Str) (hl : l.length ≤ 1048576) (hs : ∀ s ∈ l, s.length ≤ 1048700) : zk (EV Tryz.prog xp) 91 [.t (.list 1 (strs l))] = some (.t (.list 1 (strs (xa [] l)))) := by
 obtain ⟨cap, L⟩ := YD l hl hs l [] [] 0 (some 0) rfl rfl (by omega) (fun s hs => by simp at hs)
 have ht : (strs (xa [] l)).take (xa [] l).length = strs (xa [] l) := by rw [← zj (xa [] l)]; simp
 simp only [List.length_nil, Int.natCast_zero, show strs [] = [] from rfl] at L
 generalize xa [] l = Z at *
 apply zq
 refine zr rfl Tryz.func91 rfl (by kernel_rfl) ?_
 unfold Tryz.f91
 simp (disch := ((try simp only [LL]); omega)) only [↓GO, ↓yx, GA, GX, ren, zm, z8, refs, z7, cst, zo, isC, bin, una, z6, zc, blt, asArg, ze, zb, zf, z1, E.mkS, unN, zd, zn, za, GS2, simprocAttr, GZ, L, ht, zD]
/-- the versions of a name -/
def zX (ps : List zg) (name : Str) : List Str := (ps.filter fun p => p.name == name).map (·.version)
def zP (g : zy) (name : Str) : List Str := xa [] (zX g.packs name)
theorem mn (ps : List zg) (name : Str) : (zX ps name).length ≤ ps.length := by
 unfold zX; rw [List.length_map]; exact List.length_filter_le _ _
theorem oD (p : zg) (ps : List zg) (name : Str) : zX (p :: ps) name = cond (p.name == name) (p.version :: zX ps name) (zX ps name) := by
 unfold zX
 rw [List.filter_cons]
 cases (p.name == name) <;> rfl
theorem lb {g : zy} (hB : GB g) (name : Str) : (zX g.packs name).length ≤ 1048576 ∧ ∀ s ∈ zX g.packs name, s.length ≤ 1048700 := by
 obtain ⟨h1, _, h3⟩ := hB.len
 refine ⟨Nat.le_trans (mn _ _) h1, fun s hs => ?_⟩
 obtain ⟨p, hp, rfl⟩ := List.mem_map.1 hs
 have := h3 p (List.mem_filter.1 hp).1
 simp only [zg.zO] at this
 omega
theorem Sr (name : Str) (ps : List zg) (hl : ps.length ≤ 1048576) : ∀ (rest pre : List zg) (acc : List Str) (m : Nat) (cap : Option Nat), ps = pre ++ rest → m = acc.length → m + rest.length ≤ 1073741824 → ∃ cap',
 EV Tryz.prog xp (.loop 70 58 0 [.t (.str name), .sl 0 0 m cap, .t (.list 6 (zg.zA ps)), .t (.int .i64 (ps.length : Int)), .t (.int .i64 (pre.length : Int))] [.ts 1 (strs acc)])
  = some (.loop (.exit 0) [.sl 0 0 (m + (zX rest name).length) cap'] [.ts 1 (strs (acc ++ zX rest name))])
 | [], pre, acc, m, cap, h, hm, hmM => by
  have c : decide ((pre.length : Int) < (ps.length : Int)) = false := by simp [h]
  refine ⟨cap, ?_⟩
  rw [show zX [] name = [] from rfl]
  simp only [List.append_nil, List.length_nil, Nat.add_zero]
  refine zh Tryz.func70 rfl rfl ?_
  simp (disch := ((try simp only [LL]); omega)) only [↓GO, ↓yx, GA, GX, ren, zm, z8, refs, z7, cst, zo, isC, bin, una, z6, zc, blt, asArg, ze, zb, zf, z1, E.mkS, unN, zd, zn, za, GS2, simprocAttr, GZ, c, zD]
 | p :: rest, pre, acc, m, cap, h, hm, hmM => by
  have c : decide ((pre.length : Int) < (ps.length : Int)) = true := by simp [h]; omega
  have hget : (zg.zA ps)[pre.length]? = some p.enc := by rw [h]; simp [zg.zA]
  have hlen : pre.length + rest.length + 1 ≤ ps.length := by rw [h]; simp; omega
  have hsl : (strs acc).length = m := by rw [zj, hm]
  simp only [List.length_cons] at hmM
  rw [oD]
  obtain ⟨pn, version, source, sums, dev, needs⟩ := p
  simp only [zg.enc] at hget
  simp only
  cases q : (pn == name) with
  | true =>
   obtain ⟨cap', IH⟩ := Sr name ps hl rest (pre ++ [⟨pn, version, source, sums, dev, needs⟩]) (acc ++ [version]) (m + 1) none (by rw [h]; simp) (by simp [hm]) (by omega)
   rw [show ((pre ++ [⟨pn, version, source, sums, dev, needs⟩] : List zg).length : Int) = (pre.length : Int) + 1 by simp] at IH
   rw [show strs (acc ++ [version]) = strs acc ++ [[.str version]] by simp [strs]] at IH
   refine ⟨cap', ?_⟩
   simp only [cond_true, List.length_cons]
   rw [show m + ((zX rest name).length + 1) = m + 1 + (zX rest name).length by omega, show acc ++ version :: zX rest name = (acc ++ [version]) ++ zX rest name by simp]
   clear h
   generalize (acc ++ [version]) ++ zX rest name = Z at *
   refine zh Tryz.func70 rfl rfl ?_
   simp (disch := ((try simp only [LL]); omega)) only [↓GO, ↓yx, GA, GX, ren, zm, z8, refs, z7, cst, zo, isC, bin, una, z6, zc, blt, asArg, ze, zb, zf, z1, E.mkS, unN, zd, zn, za, GS2, simprocAttr, GZ, c, hget, q, zi, hsl, zD, IH, xf]
  | false =>
   obtain ⟨cap', IH⟩ := Sr name ps hl rest (pre ++ [⟨pn, version, source, sums, dev, needs⟩]) acc m cap (by rw [h]; simp) hm (by omega)
   rw [show ((pre ++ [⟨pn, version, source, sums, dev, needs⟩] : List zg).length : Int) = (pre.length : Int) + 1 by simp] at IH
   refine ⟨cap', ?_⟩
   simp only [cond_false]
   clear h
   generalize acc ++ zX rest name = Z at *
   refine zh Tryz.func70 rfl rfl ?_
   simp (disch := ((try simp only [LL]); omega)) only [↓GO, ↓yx, GA, GX, ren, zm, z8, refs, z7, cst, zo, isC, bin, una, z6, zc, blt, asArg, ze, zb, zf, z1, E.mkS, unN, zd, zn, za, GS2, simprocAttr, GZ, c, hget, q, zi, zD, IH]
theorem QL (g : zy) (hB : GB g) (name : Str) : zk (EV Tryz.prog xp) 70 [.agg (g.enc.map .t), .t (.str name)] = some (.t (.list 1 (strs (zP g name)))) := by
 obtain ⟨h1, h2⟩ := lb hB name
 have h3 := hB.len
 obtain ⟨cap, L⟩ := Sr name g.packs h3.1 g.packs [] [] 0 (some 0) rfl rfl (by omega)
 have d1 := c_svI (zX g.packs name) h1 h2
 unfold zP
 have hnl := zj (zX g.packs name)
 have ht : (strs (zX g.packs name)).take (zX g.packs name).length = strs (zX g.packs name) := by rw [← hnl]; simp
 clear hB h2 h3
 obtain ⟨top, packs⟩ := g
 simp only [List.length_nil, Int.natCast_zero, Nat.zero_add, List.nil_append, show strs [] = [] from rfl, zy.enc, List.map_cons, List.map_nil] at L d1 ht ⊢
 generalize xa [] (zX packs name) = Z at *
 generalize zX packs name = N at *
 apply zq
 refine zr rfl Tryz.func70 rfl (by kernel_rfl) ?_
 unfold Tryz.f70
 simp (disch := ((try simp only [LL]); omega)) only [↓GO, ↓yx, GA, GX, ren, zm, z8, refs, z7, cst, zo, isC, bin, una, z6, zc, blt, asArg, ze, zb, zf, z1, E.mkS, unN, zd, zn, za, GS2, simprocAttr, GZ, L, d1, ht, zg.zx, zD]
theorem Sq (name : Str) (g : zy) (hB : GB g) : ∀ (rest pre : List zg) (acc : List Str) (m : Nat) (cap : Option Nat), g.packs = pre ++ rest → m = acc.length → m + rest.length ≤ 1073741824 → ∃ cap',
 EV Tryz.prog xp (.loop 89 58 0 [.t (.str name), .ptr 0 0 0, .sl 1 0 m cap, .t (.int .i64 (pre.length : Int))] [.vs 2 [g.enc.map .t], .ts 1 (strs acc)])
  = some (.loop (.exit 0) [.sl 0 0 (m + (zX rest name).length) cap'] [.ts 1 (strs (acc ++ zX rest name))])
 | [], pre, acc, m, cap, h, hm, hmM => by
  have c : decide ((pre.length : Int) < (g.packs.length : Int)) = false := by simp [h]
  refine ⟨cap, ?_⟩
  rw [show zX [] name = [] from rfl]
  clear hB
  obtain ⟨top, packs⟩ := g
  simp only [List.append_nil, List.length_nil, Nat.add_zero, zy.enc, List.map_cons, List.map_nil] at c ⊢
  refine zh Tryz.func89 rfl rfl ?_
  simp (disch := ((try simp only [LL]); omega)) only [↓GO, ↓yx, GA, GX, ren, zm, z8, refs, z7, cst, zo, isC, bin, una, z6, zc, blt, asArg, ze, zb, zf, z1, E.mkS, unN, zd, zn, za, GS2, simprocAttr, GZ, c, zg.zx, zD]
 | p :: rest, pre, acc, m, cap, h, hm, hmM => by
  have c : decide ((pre.length : Int) < (g.packs.length : Int)) = true := by simp [h]; omega
  have hget : (zg.zA g.packs)[pre.length]? = some p.enc := by rw [h]; simp [zg.zA]
  have hlen : pre.length + rest.length + 1 ≤ g.packs.length := by rw [h]; simp; omega
  have hpl := hB.len.1
  have hsl : (strs acc).length = m := by rw [zj, hm]
  simp only [List.length_cons] at hmM
  rw [oD]
  obtain ⟨pn, version, source, sums, dev, needs⟩ := p
  simp only [zg.enc] at hget
  simp only
  cases q : (pn == name) with
  | true =>
   obtain ⟨cap', IH⟩ := Sq name g hB rest (pre ++ [⟨pn, version, source, sums, dev, needs⟩]) (acc ++ [version]) (m + 1) none (by rw [h]; simp) (by simp [hm]) (by omega)
   rw [show ((pre ++ [⟨pn, version, source, sums, dev, needs⟩] : List zg).length : Int) = (pre.length : Int) + 1 by simp] at IH
   rw [show strs (acc ++ [version]) = strs acc ++ [[.str version]] by simp [strs]] at IH
   refine ⟨cap', ?_⟩
   simp only [cond_true, List.length_cons]
   rw [show m + ((zX rest name).length + 1) = m + 1 + (zX rest name).length by omega, show acc ++ version :: zX rest name = (acc ++ [version]) ++ zX rest name by simp]
   clear h hB
   obtain ⟨top, packs⟩ := g
   simp only [zy.enc, List.map_cons, List.map_nil] at c hget hlen hpl IH ⊢
   generalize (acc ++ [version]) ++ zX rest name = Z at *
   refine zh Tryz.func89 rfl rfl ?_
   simp (disch := ((try simp only [LL]); omega)) only [↓GO, ↓yx, GA, GX, ren, zm, z8, refs, z7, cst, zo, isC, bin, una, z6, zc, blt, asArg, ze, zb, zf, z1, E.mkS, unN, zd, zn, za, GS2, simprocAttr, GZ, c, hget, q, zg.zx, zi, hsl, zD, IH, xf]
  | false =>
   obtain ⟨cap', IH⟩ := Sq name g hB rest (pre ++ [⟨pn, version, source, sums, dev, needs⟩]) acc m cap (by rw [h]; simp) hm (by omega)
   rw [show ((pre ++ [⟨pn, version, source, sums, dev, needs⟩] : List zg).length : Int) = (pre.length : Int) + 1 by simp] at IH
   refine ⟨cap', ?_⟩
   simp only [cond_false]
   clear h hB
   obtain ⟨top, packs⟩ := g
   simp only [zy.enc, List.map_cons, List.map_nil] at c hget hlen hpl IH ⊢
   generalize acc ++ zX rest name = Z at *
   refine zh Tryz.func89 rfl rfl ?_
   simp (disch := ((try simp only [LL]); omega)) only [↓GO, ↓yx, GA, GX, ren, zm, z8, refs, z7, cst, zo, isC, bin, una, z6, zc, blt, asArg, ze, zb, zf, z1, E.mkS, unN, zd, zn, za, GS2, simprocAttr, GZ, c, hget, q, zg.zx, zi, zD, IH]
theorem QK (g : zy) (hB : GB g) (name : Str) : zk (EV Tryz.prog xp) 89 [.agg (g.enc.map .t), .t (.str name)] = some (.t (.list 1 (strs (zP g name)))) := by
 obtain ⟨h1, h2⟩ := lb hB name
 have h3 := hB.len
 obtain ⟨cap, L⟩ := Sq name g hB g.packs [] [] 0 (some 0) rfl rfl (by omega)
 have d1 := c_svR (zX g.packs name) h1 h2
 unfold zP
 have hnl := zj (zX g.packs name)
 have ht : (strs (zX g.packs name)).take (zX g.packs name).length = strs (zX g.packs name) := by rw [← hnl]; simp
 clear hB h2 h3
 obtain ⟨top, packs⟩ := g
 simp only [List.length_nil, Int.natCast_zero, Nat.zero_add, List.nil_append, show strs [] = [] from rfl, zy.enc, List.map_cons, List.map_nil] at L d1 ht ⊢
 generalize xa [] (zX packs name) = Z at *
 generalize zX packs name = N at *
 apply zq
 refine zr rfl Tryz.func89 rfl (by kernel_rfl) ?_
 unfold Tryz.f89
 simp (disch := ((try simp only [LL]); omega)) only [↓GO, ↓yx, GA, GX, ren, zm, z8, refs, z7, cst, zo, isC, bin, una, z6, zc, blt, asArg, ze, zb, zf, z1, E.mkS, unN, zd, zn, za, GS2, simprocAttr, GZ, L, d1, ht, zg.zx, zD]
end Go.Proofs.YtijninlbpifonaaGreatDoor
/- What is reached is closed; graphs pruned, plain: both ways come to the same. Conditions: none. -/
namespace Go.Proofs.YtijninlbpifonaaGreatDoor
open E
set_option linter.unusedVariables false
set_option linter.unusedSimpArgs false
set_option maxRecDepth 100000
def F7 (l : List zg) : Prop := l.Pairwise fun x y => Op.bytesLess (keyOf x) (keyOf y) = true
theorem F7.key : ∀ {l : List zg}, F7 l → ∀ p ∈ l, ∀ q ∈ l, keyOf p = keyOf q → p = q
 | [], _, p, hp, q, hq, e => by simp at hp
 | x :: r, h, p, hp, q, hq, e => by
  obtain ⟨h1, h2⟩ := List.pairwise_cons.1 h
  rcases List.mem_cons.1 hp with rfl | hp <;> rcases List.mem_cons.1 hq with rfl | hq
  · rfl
  · have := h1 q hq; rw [e, xY] at this; cases this
  · have := h1 p (by assumption); rw [e, xY] at this; cases this
  · exact F7.key h2 p hp q hq e
end Go.Proofs.YtijninlbpifonaaGreatDoor
/- Changes between graphs, by both. Conditions: those of each lemma. -/
namespace Go.Proofs.YtijninlbpifonaaGreatDoor
open E
set_option linter.unusedSimpArgs false
set_option linter.unusedVariables false
set_option maxRecDepth 100000
def yU (a b : zy) (name : Str) : List zl := cA name (woS (zP a name) (zP b name)) (woS (zP b name) (zP a name))
def zQ (a b : zy) : List zl := (yb a b).flatMap (yU a b) ++ a.packs.flatMap (wz b)
def wZ (a b : zy) : List zl := cond (y7 a && y7 b) (zQ a b) []
/-- what versions are -/
def gH (l : List Str) : Prop := l.length ≤ 1048576 ∧ ∀ s ∈ l, isV s = true ∧ s.length ≤ 1048700
theorem uI {g : zy} (hB : GB g) (name : Str) : gH (zP g name) := by
 obtain ⟨h1, h2⟩ := lb hB name
 unfold zP
 obtain ⟨k1, k2, k3⟩ := sM (zX g.packs name) [] (fun s hs => by simp at hs) (by simp [pq])
 refine ⟨?_, fun s hs => ⟨k1 s hs, ?_⟩⟩
 · have := pG (zX g.packs name) []
   simp only [List.length_nil] at this; omega
 · rcases (k3 s).1 hs with h | h
   · simp at h
   · exact h2 s h.1
theorem o8 {a : List Str} (h : gH a) (b : List Str) : gH (woS a b) :=
 ⟨Nat.le_trans (nt a b) h.1, fun s hs => h.2 s (List.mem_filter.1 hs).1⟩
theorem dV (name : Str) (old new : List Str) (i d : Nat) : (List.range' i (d + 1)).map (vf name old new) = vf name old new i :: (List.range' (i + 1) d).map (vf name old new) := by
 rw [List.range'_succ]; rfl
theorem mN (name : Str) (old new : List Str) : cA name old new = (List.range' 0 (max old.length new.length)).map (vf name old new) := by
 unfold cA; rw [List.range_eq_range']
theorem cy (i n : Nat) : (decide ((i : Int) ≥ (n : Int))) = decide (n ≤ i) := by
 rw [Bool.eq_iff_iff]; simp
theorem Qq (acc : List zl) (x : zl) (r : List zl) : acc ++ x :: r = (acc ++ [x]) ++ r := by simp
theorem S0 (a b : zy) (t27 t28 t29 : T) (name : Str) (old new : List Str) (ho : gH old) (hn : gH new) (M : Nat) (hM : M = max old.length new.length) : ∀ (d i : Nat) (acc : List zl) (m : Nat) (cap : Option Nat), i + d = M → m = acc.length → m + d ≤ 16777216 → ∃ cap',
 EV Tryz.prog xp (.loop 31 125342 0 [.ptr 0 0 0, .ptr 1 0 0, .sl 2 0 m cap, .t (.str name), .t (.list 1 (strs old)), .t (.list 1 (strs new)), .t t27, .t t28, .t t29, .t (.int .i64 (M : Int)), .t (.int .i64 (i : Int))] [.vs 2 [a.enc.map .t], .vs 2 [b.enc.map .t], .ts 4 (zl.zA acc)])
  = some (.loop (.exit 2) [.ptr 0 0 0, .ptr 1 0 0, .sl 2 0 (m + d) cap', .t t27, .t t28, .t t29] [.vs 2 [a.enc.map .t], .vs 2 [b.enc.map .t], .ts 4 (zl.zA (acc ++ (List.range' i d).map (vf name old new)))])
 | 0, i, acc, m, cap, hi, hm, hmM => by
  have c : decide ((i : Int) < (M : Int)) = false := by apply decide_eq_false; omega
  refine ⟨cap, ?_⟩
  simp only [List.range'_zero, List.map_nil, List.append_nil, Nat.add_zero]
  obtain ⟨ta, pa⟩ := a
  obtain ⟨tb, pb⟩ := b
  simp only [zy.enc, List.map_cons, List.map_nil]
  refine zh Tryz.func31 rfl rfl ?_
  simp (disch := ((try simp only [LL]); omega)) only [↓GO, ↓yx, GA, GX, ren, zm, z8, refs, z7, cst, zo, isC, bin, una, z6, zc, blt, asArg, ze, zb, zf, z1, E.mkS, unN, zd, zn, za, GS2, simprocAttr, GZ, c, zD]
 | d + 1, i, acc, m, cap, hi, hm, hmM => by
  have c : decide ((i : Int) < (M : Int)) = true := by apply decide_eq_true; omega
  have hMl : M ≤ 1048576 := by have := ho.1; have := hn.1; omega
  have hsl : (zl.zA acc).length = m := by rw [zl.zx, hm]
  obtain ⟨cap', IH⟩ := S0 a b t27 t28 t29 name old new ho hn M hM d (i + 1) (acc ++ [vf name old new i]) (m + 1) none (by omega) (by simp [hm]) (by omega)
  rw [show ((i + 1 : Nat) : Int) = (i : Int) + 1 by omega] at IH
  rw [zl.vz] at IH
  refine ⟨cap', ?_⟩
  rw [dV, Qq, show m + (d + 1) = m + 1 + d by omega]
  generalize (acc ++ [vf name old new i]) ++ (List.range' (i + 1) d).map (vf name old new) = Z at *
  obtain ⟨ta, pa⟩ := a
  obtain ⟨tb, pb⟩ := b
  simp only [zy.enc, List.map_cons, List.map_nil] at IH ⊢
  by_cases hnew : i < new.length
  · have hg2 : (strs new)[i]? = some [.str new[i]] := yG new i hnew
    have e2 : new[i]? = some new[i] := List.getElem?_eq_getElem hnew
    have c1 : decide ((i : Int) ≥ (new.length : Int)) = false := by rw [cy]; simpa using hnew
    have hv2 := hn.2 _ (List.getElem_mem hnew)
    by_cases hold : i < old.length
    · have hg1 : (strs old)[i]? = some [.str old[i]] := yG old i hold
      have e1 : old[i]? = some old[i] := List.getElem?_eq_getElem hold
      have c2 : decide ((i : Int) ≥ (old.length : Int)) = false := by rw [cy]; simpa using hold
      have hv1 := ho.2 _ (List.getElem_mem hold)
      have d1 := mP (QO old[i] new[i] hv1.2 hv2.2)
      rw [Yg (yO hv1.1).2.2.1 (yO hv2.1).2.2.1] at d1
      rw [show vf name old new i = cond (decide (xi old[i] new[i] < 0)) ⟨2, name, old[i], new[i]⟩ ⟨3, name, old[i], new[i]⟩ by unfold vf; rw [e1, e2]] at IH
      change zk (EV Tryz.prog xp) 97 _ = some (.t (.int .i64 (xi old[i] new[i]))) at d1
      generalize xi old[i] new[i] = ct at *
      generalize old[i] = o at *
      generalize new[i] = nw at *
      clear ho hn hM hv1 hv2 e1 e2
      cases q : decide (ct < 0) with
      | true =>
       rw [q, cond_true] at IH
       simp only [zl.enc] at IH
       refine zh Tryz.func31 rfl rfl ?_
       simp (disch := ((try simp only [LL]); omega)) only [↓GO, ↓yx, GA, GX, ren, zm, z8, refs, z7, cst, zo, isC, bin, una, z6, zc, blt, asArg, ze, zb, zf, z1, E.mkS, unN, zd, zn, za, GS2, simprocAttr, GZ, c, c1, c2, hg1, hg2, zj, d1, q, zi, hsl, zD, IH, xf]
       refine yJ (by kernel_rfl) ?_
       first | exact IH | simp (disch := ((try simp only [LL]); omega)) only [↓GO, ↓yx, GA, GX, ren, zm, z8, refs, z7, cst, zo, isC, bin, una, z6, zc, blt, asArg, ze, zb, zf, z1, E.mkS, unN, zd, zn, za, GS2, simprocAttr, GZ, IH, zi, zD]
      | false =>
       rw [q, cond_false] at IH
       simp only [zl.enc] at IH
       refine zh Tryz.func31 rfl rfl ?_
       simp (disch := ((try simp only [LL]); omega)) only [↓GO, ↓yx, GA, GX, ren, zm, z8, refs, z7, cst, zo, isC, bin, una, z6, zc, blt, asArg, ze, zb, zf, z1, E.mkS, unN, zd, zn, za, GS2, simprocAttr, GZ, c, c1, c2, hg1, hg2, zj, d1, q, zi, hsl, zD, IH, xf]
       refine yJ (by kernel_rfl) ?_
       first | exact IH | simp (disch := ((try simp only [LL]); omega)) only [↓GO, ↓yx, GA, GX, ren, zm, z8, refs, z7, cst, zo, isC, bin, una, z6, zc, blt, asArg, ze, zb, zf, z1, E.mkS, unN, zd, zn, za, GS2, simprocAttr, GZ, IH, zi, zD]
    · have e1 : old[i]? = none := List.getElem?_eq_none (by omega)
      have c2 : decide ((i : Int) ≥ (old.length : Int)) = true := by rw [cy]; simpa using hold
      rw [show vf name old new i = ⟨0, name, [], new[i]⟩ by unfold vf; rw [e1, e2]] at IH
      simp only [zl.enc] at IH
      generalize new[i] = nw at *
      clear ho hn hM e1 e2
      refine zh Tryz.func31 rfl rfl ?_
      simp (disch := ((try simp only [LL]); omega)) only [↓GO, ↓yx, GA, GX, ren, zm, z8, refs, z7, cst, zo, isC, bin, una, z6, zc, blt, asArg, ze, zb, zf, z1, E.mkS, unN, zd, zn, za, GS2, simprocAttr, GZ, c, c1, c2, hg2, zj, zi, hsl, zD, IH, xf]
  · have hold : i < old.length := by omega
    have hg1 : (strs old)[i]? = some [.str old[i]] := yG old i hold
    have e1 : old[i]? = some old[i] := List.getElem?_eq_getElem hold
    have e2 : new[i]? = none := List.getElem?_eq_none (by omega)
    have c1 : decide ((i : Int) ≥ (new.length : Int)) = true := by rw [cy]; simpa using hnew
    rw [show vf name old new i = ⟨1, name, old[i], []⟩ by unfold vf; rw [e1, e2]] at IH
    simp only [zl.enc] at IH
    generalize old[i] = o at *
    clear ho hn hM e1 e2
    refine zh Tryz.func31 rfl rfl ?_
    simp (disch := ((try simp only [LL]); omega)) only [↓GO, ↓yx, GA, GX, ren, zm, z8, refs, z7, cst, zo, isC, bin, una, z6, zc, blt, asArg, ze, zb, zf, z1, E.mkS, unN, zd, zn, za, GS2, simprocAttr, GZ, c, c1, hg1, zj, zi, hsl, zD, IH, xf]
theorem qn {g : zy} (h : y7 g = true) : g.packs.length ≤ 40 := by
 unfold y7 at h
 simp only [Bool.and_eq_true, decide_eq_true_eq] at h
 omega
theorem kB (g : zy) (name : Str) : (zP g name).length ≤ g.packs.length := by
 have := pG (zX g.packs name) []
 have h2 := mn g.packs name
 unfold zP
 simp only [List.length_nil] at this; omega
theorem vO {a b : zy} (ha : y7 a = true) (hb : y7 b = true) (n : Str) : (yU a b n).length ≤ 40 := by
 unfold yU
 rw [sC]
 have h1 := nt (zP a n) (zP b n)
 have h2 := nt (zP b n) (zP a n)
 have h3 := kB a n
 have h4 := kB b n
 have h5 := qn ha
 have h6 := qn hb
 omega
theorem aB (a b : zy) (ha : GB a) (hb : GB b) (oa : y7 a = true) (ob : y7 b = true) (ns : List Str) (hl : ns.length ≤ 80) : ∀ (rest pre : List Str) (acc : List zl) (m : Nat) (cap : Option Nat), ns = pre ++ rest → m = acc.length → m + 40 * rest.length ≤ 1048576 → ∃ cap',
 EV Tryz.prog xp (.loop 31 122 0 [.ptr 0 0 0, .ptr 1 0 0, .sl 2 0 m cap, .t (.list 1 (strs ns)), .t (.int .i64 (ns.length : Int)), .t (.int .i64 (pre.length : Int))] [.vs 2 [a.enc.map .t], .vs 2 [b.enc.map .t], .ts 4 (zl.zA acc)])
  = some (.loop (.exit 0) [.ptr 0 0 0, .ptr 1 0 0, .sl 2 0 (acc ++ rest.flatMap (yU a b)).length cap'] [.vs 2 [a.enc.map .t], .vs 2 [b.enc.map .t], .ts 4 (zl.zA (acc ++ rest.flatMap (yU a b)))])
 | [], pre, acc, m, cap, h, hm, hmM => by
  have c : decide ((pre.length : Int) < (ns.length : Int)) = false := by simp [h]
  refine ⟨cap, ?_⟩
  rw [List.flatMap_nil, List.append_nil, ← hm]
  clear ha hb oa ob
  obtain ⟨ta, pa⟩ := a
  obtain ⟨tb, pb⟩ := b
  simp only [zy.enc, List.map_cons, List.map_nil]
  refine zh Tryz.func31 rfl rfl ?_
  simp (disch := ((try simp only [LL]); omega)) only [↓GO, ↓yx, GA, GX, ren, zm, z8, refs, z7, cst, zo, isC, bin, una, z6, zc, blt, asArg, ze, zb, zf, z1, E.mkS, unN, zd, zn, za, GS2, simprocAttr, GZ, c, zD]
 | x :: rest, pre, acc, m, cap, h, hm, hmM => by
  have c : decide ((pre.length : Int) < (ns.length : Int)) = true := by simp [h]; omega
  have hget : (strs ns)[pre.length]? = some [.str x] := yV (by rw [h]; simp)
  have hlen : pre.length + rest.length + 1 ≤ ns.length := by rw [h]; simp; omega
  simp only [List.length_cons] at hmM
  have va := uI ha x
  have vb := uI hb x
  have d1 := QL a ha x
  have d2 := QL b hb x
  have d3 := mP (QI (zP a x) (zP b x) va.1 vb.1)
  have d4 := mP (QI (zP b x) (zP a x) vb.1 va.1)
  have wo := o8 va (zP b x)
  have wn := o8 vb (zP a x)
  have hcl := vO oa ob x
  have hcl' := hcl
  unfold yU at hcl'
  rw [sC] at hcl'
  obtain ⟨cap1, L⟩ := S0 a b (.list 1 (strs ns)) (.int .i64 (ns.length : Int)) (.int .i64 (pre.length : Int)) x (woS (zP a x) (zP b x)) (woS (zP b x) (zP a x)) wo wn _ rfl (max (woS (zP a x) (zP b x)).length (woS (zP b x) (zP a x)).length) 0 acc m cap (by omega) hm (by omega)
  rw [← mN, show cA x (woS (zP a x) (zP b x)) (woS (zP b x) (zP a x)) = yU a b x from rfl] at L
  have hcn : max (woS (zP a x) (zP b x)).length (woS (zP b x) (zP a x)).length = (yU a b x).length := by unfold yU; rw [sC]
  obtain ⟨cap', IH⟩ := aB a b ha hb oa ob ns hl rest (pre ++ [x]) (acc ++ yU a b x) (m + (yU a b x).length) cap1 (by rw [h]; simp) (by simp [hm]) (by omega)
  rw [show ((pre ++ [x]).length : Int) = (pre.length : Int) + 1 by simp] at IH
  refine ⟨cap', ?_⟩
  rw [List.flatMap_cons, ← List.append_assoc]
  have hmx : ∀ o n : Nat, (if (n : Int) > (o : Int) then (n : Int) else (o : Int)) = ((max o n : Nat) : Int) := fun o n => by split <;> omega
  have hmax := hmx (woS (zP a x) (zP b x)).length (woS (zP b x) (zP a x)).length
  rw [hcn] at L hmax
  have hol := zj (woS (zP a x) (zP b x))
  have hnl := zj (woS (zP b x) (zP a x))
  clear h ha hb oa ob va vb wo wn hcn hcl'
  generalize (acc ++ yU a b x) ++ rest.flatMap (yU a b) = Z at *
  generalize hcg : (yU a b x).length = cg at *
  generalize yU a b x = CG at *
  generalize woS (zP a x) (zP b x) = old at *
  generalize woS (zP b x) (zP a x) = new at *
  generalize zP a x = VA at *
  generalize zP b x = VB at *
  obtain ⟨ta, pa⟩ := a
  obtain ⟨tb, pb⟩ := b
  simp only [zy.enc, List.map_cons, List.map_nil, Int.natCast_zero] at d1 d2 L IH ⊢
  refine zh Tryz.func31 rfl rfl ?_
  simp (disch := ((try simp only [LL]); omega)) only [↓GO, ↓yx, GA, GX, ren, zm, z8, refs, z7, cst, zo, isC, bin, una, z6, zc, blt, asArg, ze, zb, zf, z1, E.mkS, unN, zd, zn, za, GS2, simprocAttr, GZ, c, hget, d1, d2, d3, d4, hol, hnl, hmax, L, zi, zD, IH]
theorem Ut (b : zy) (p : zg) : (wz b p).length ≤ 1 := by
 unfold wz
 cases nn b.packs (keyOf p) with
 | none => simp
 | some q => simp only; cases tC p q <;> simp
theorem lO (b : zy) (hb : GB b) (cs : List zg) (hl : cs.length ≤ 40) (hcb : ∀ p ∈ cs, p.zO ≤ 1048576) : ∀ (rest pre : List zg) (acc : List zl) (m : Nat) (cap : Option Nat), cs = pre ++ rest → m = acc.length → m + rest.length ≤ 1048576 → ∃ cap',
 EV Tryz.prog xp (.loop 31 250 0 [.ptr 0 0 0, .sl 1 0 m cap, .t (.list 6 (zg.zA cs)), .t (.int .i64 (cs.length : Int)), .t (.int .i64 (pre.length : Int))] [.vs 2 [b.enc.map .t], .ts 4 (zl.zA acc)])
  = some (.loop (.exit 5) [.sl 0 0 (acc ++ rest.flatMap (wz b)).length cap'] [.ts 4 (zl.zA (acc ++ rest.flatMap (wz b)))])
 | [], pre, acc, m, cap, h, hm, hmM => by
  have c : decide ((pre.length : Int) < (cs.length : Int)) = false := by simp [h]
  refine ⟨cap, ?_⟩
  rw [List.flatMap_nil, List.append_nil, ← hm]
  clear hb
  obtain ⟨tb, pb⟩ := b
  simp only [zy.enc, List.map_cons, List.map_nil]
  refine zh Tryz.func31 rfl rfl ?_
  simp (disch := ((try simp only [LL]); omega)) only [↓GO, ↓yx, GA, GX, ren, zm, z8, refs, z7, cst, zo, isC, bin, una, z6, zc, blt, asArg, ze, zb, zf, z1, E.mkS, unN, zd, zn, za, GS2, simprocAttr, GZ, c, zD]
 | p :: rest, pre, acc, m, cap, h, hm, hmM => by
  have c : decide ((pre.length : Int) < (cs.length : Int)) = true := by simp [h]; omega
  have hget : (zg.zA cs)[pre.length]? = some p.enc := by rw [h]; simp [zg.zA]
  have hlen : pre.length + rest.length + 1 ≤ cs.length := by rw [h]; simp; omega
  have hpb := hcb p (by rw [h]; simp)
  have hsl : (zl.zA acc).length = m := by rw [zl.zx, hm]
  simp only [List.length_cons] at hmM
  have d1 := mP (gB p (by omega))
  have d2 := mP (Yp b (keyOf p) hb)
  rw [List.flatMap_cons, ← List.append_assoc]
  cases hf : nn b.packs (keyOf p) with
  | none =>
   rw [dC hf] at d2
   simp only [ixI] at d2
   have c2 : decide ((-1 : Int) ≥ 0) = false := rfl
   rw [show wz b p = [] by unfold wz; rw [hf], List.append_nil]
   obtain ⟨cap', IH⟩ := lO b hb cs hl hcb rest (pre ++ [p]) acc m cap (by rw [h]; simp) hm (by omega)
   rw [show ((pre ++ [p]).length : Int) = (pre.length : Int) + 1 by simp] at IH
   refine ⟨cap', ?_⟩
   clear h hb hf hcb
   generalize acc ++ rest.flatMap (wz b) = Z at *
   generalize keyOf p = kp at *
   obtain ⟨tb, pb⟩ := b
   obtain ⟨pn, version, source, sums, dev, needs⟩ := p
   simp only [zy.enc, zg.enc, List.map_cons, List.map_nil] at hget d1 d2 IH ⊢
   refine zh Tryz.func31 rfl rfl ?_
   simp (disch := ((try simp only [LL]); omega)) only [↓GO, ↓yx, GA, GX, ren, zm, z8, refs, z7, cst, zo, isC, bin, una, z6, zc, blt, asArg, ze, zb, zf, z1, E.mkS, unN, zd, zn, za, GS2, simprocAttr, GZ, c, hget, d1, d2, c2, zi, zD, IH]
  | some q =>
   obtain ⟨hq, hkq, i, hi, hpi⟩ := dB hf
   rw [hi] at d2
   simp only [ixI] at d2
   have c2 : decide ((i : Int) ≥ 0) = true := by simp
   have hgq : (zg.zA b.packs)[i]? = some q.enc := by unfold zg.zA; rw [List.getElem?_map, hpi]; rfl
   have d3 := mP (c_spI p q hpb)
   cases hs : tC p q with
   | true =>
    rw [hs] at d3
    rw [show wz b p = [] by unfold wz; rw [hf]; simp only [hs, cond_true], List.append_nil]
    obtain ⟨cap', IH⟩ := lO b hb cs hl hcb rest (pre ++ [p]) acc m cap (by rw [h]; simp) hm (by omega)
    rw [show ((pre ++ [p]).length : Int) = (pre.length : Int) + 1 by simp] at IH
    refine ⟨cap', ?_⟩
    clear h hb hf hcb hq hkq hi hpi hs
    generalize acc ++ rest.flatMap (wz b) = Z at *
    generalize keyOf p = kp at *
    obtain ⟨tb, pb⟩ := b
    obtain ⟨pn, version, source, sums, dev, needs⟩ := p
    obtain ⟨pn', version', source', sums', dev', needs'⟩ := q
    simp only [zy.enc, zg.enc, List.map_cons, List.map_nil] at hget hgq d1 d2 d3 IH ⊢
    refine zh Tryz.func31 rfl rfl ?_
    simp (disch := ((try simp only [LL]); omega)) only [↓GO, ↓yx, GA, GX, ren, zm, z8, refs, z7, cst, zo, isC, bin, una, z6, zc, blt, asArg, ze, zb, zf, z1, E.mkS, unN, zd, zn, za, GS2, simprocAttr, GZ, c, hget, d1, d2, c2, hgq, d3, Bool.not_true, zi, zD, IH]
   | false =>
    rw [hs] at d3
    rw [show wz b p = [⟨4, p.name, p.version, p.version⟩] by unfold wz; rw [hf]; simp only [hs, cond_false]]
    obtain ⟨cap', IH⟩ := lO b hb cs hl hcb rest (pre ++ [p]) (acc ++ [⟨4, p.name, p.version, p.version⟩]) (m + 1) none (by rw [h]; simp) (by simp [hm]) (by omega)
    rw [show ((pre ++ [p]).length : Int) = (pre.length : Int) + 1 by simp] at IH
    rw [zl.vz] at IH
    refine ⟨cap', ?_⟩
    clear h hb hf hcb hq hkq hi hpi hs
    generalize acc ++ [⟨4, p.name, p.version, p.version⟩] ++ rest.flatMap (wz b) = Z at *
    generalize keyOf p = kp at *
    obtain ⟨tb, pb⟩ := b
    obtain ⟨pn, version, source, sums, dev, needs⟩ := p
    obtain ⟨pn', version', source', sums', dev', needs'⟩ := q
    simp only [zy.enc, zg.enc, zl.enc, List.map_cons, List.map_nil] at hget hgq d1 d2 d3 IH ⊢
    refine zh Tryz.func31 rfl rfl ?_
    simp (disch := ((try simp only [LL]); omega)) only [↓GO, ↓yx, GA, GX, ren, zm, z8, refs, z7, cst, zo, isC, bin, una, z6, zc, blt, asArg, ze, zb, zf, z1, E.mkS, unN, zd, zn, za, GS2, simprocAttr, GZ, c, hget, d1, d2, c2, hgq, d3, Bool.not_false, zi, hsl, zD, IH, xf]
theorem tg (a b : zy) : (yb a b).length ≤ a.packs.length + b.packs.length := by
 unfold yb
 rw [nU]
 have := qk ((a.packs ++ b.packs).map (·.name)) []
 simp only [List.length_nil, List.length_map, List.length_append] at this; omega
theorem vy {α β : Type} (f : α → List β) (k : Nat) (h : ∀ x, (f x).length ≤ k) : ∀ l : List α, (l.flatMap f).length ≤ k * l.length
 | [] => by simp
 | x :: r => by
  have h1 := vy f k h r
  have h2 := h x
  rw [List.flatMap_cons, List.length_append, List.length_cons, Nat.mul_add]; omega
theorem ie {a b : zy} (oa : y7 a = true) (ob : y7 b = true) : (zQ a b).length ≤ 4096 := by
 have h1 := tg a b
 have h2 := qn oa
 have h3 := qn ob
 have h4 := vy (yU a b) 40 (vO oa ob) (yb a b)
 have h5 := vy (wz b) 1 (Ut b) a.packs
 unfold zQ
 rw [List.length_append]
 omega
theorem c_chI (a b : zy) (ha : GB a) (hb : GB b) (oa : y7 a = true) (ob : y7 b = true) : ∃ cap,
 EV Tryz.prog xp (.callO false 31 [.agg (a.enc.map .t), .agg (b.enc.map .t)] []) = some (.call (.sl 0 0 (zQ a b).length cap) [.ts 4 (zl.zA (zQ a b))]) := by
 have e1 := mP (sJ a ha)
 have e2 := mP (sJ b hb)
 rw [oa] at e1
 rw [ob] at e2
 have d1 := mP (QM a b ha hb)
 have h1 := tg a b
 have h2 := qn oa
 have h3 := qn ob
 have hcb := ha.len.2.2
 obtain ⟨cap1, L1⟩ := aB a b ha hb oa ob (yb a b) (by omega) (yb a b) [] [] 0 (some 0) rfl rfl (by omega)
 have h4 := vy (yU a b) 40 (vO oa ob) (yb a b)
 obtain ⟨cap2, L2⟩ := lO b hb a.packs h2 hcb a.packs [] ((yb a b).flatMap (yU a b)) _ cap1 rfl rfl (by omega)
 refine ⟨cap2, ?_⟩
 rw [show (yb a b).flatMap (yU a b) ++ a.packs.flatMap (wz b) = zQ a b from rfl] at L2
 simp only [List.length_nil, Int.natCast_zero, List.nil_append, show zl.zA [] = [] from rfl] at L1 L2
 have hnl := zj (yb a b)
 clear ha hb oa ob hcb
 generalize zQ a b = Z at *
 generalize (yb a b).flatMap (yU a b) = Y at *
 generalize yb a b = ns at *
 obtain ⟨ta, pa⟩ := a
 obtain ⟨tb, pb⟩ := b
 simp only [zy.enc, List.map_cons, List.map_nil] at e1 e2 d1 L1 L2 ⊢
 refine yf Tryz.func31 rfl (by kernel_rfl) ?_
 unfold Tryz.f31
 simp (disch := ((try simp only [LL]); omega)) only [↓GO, ↓yx, GA, GX, ren, zm, z8, refs, z7, cst, zo, isC, bin, una, z6, zc, blt, asArg, ze, zb, zf, z1, E.mkS, unN, zd, zn, za, GS2, simprocAttr, GZ, e1, e2, d1, hnl, L1, L2, zg.zx, Bool.not_true, zD]
theorem UJ (a b : zy) (ha : GB a) (hb : GB b) (h : (y7 a && y7 b) = false) :
 EV Tryz.prog xp (.callO false 31 [.agg (a.enc.map .t), .agg (b.enc.map .t)] []) = some (.call (.nil 4) []) := by
 have e1 := mP (sJ a ha)
 have e2 := mP (sJ b hb)
 clear ha hb
 cases oa : y7 a with
 | false =>
  rw [oa] at e1
  clear e2 h oa
  obtain ⟨ta, pa⟩ := a
  obtain ⟨tb, pb⟩ := b
  simp only [zy.enc, List.map_cons, List.map_nil] at e1 ⊢
  refine yf Tryz.func31 rfl (by kernel_rfl) ?_
  unfold Tryz.f31
  simp (disch := ((try simp only [LL]); omega)) only [↓GO, ↓yx, GA, GX, ren, zm, z8, refs, z7, cst, zo, isC, bin, una, z6, zc, blt, asArg, ze, zb, zf, z1, E.mkS, unN, zd, zn, za, GS2, simprocAttr, GZ, e1, Bool.not_false, zD]
 | true =>
  rw [oa, Bool.true_and] at h
  rw [oa] at e1
  rw [h] at e2
  clear h oa
  obtain ⟨ta, pa⟩ := a
  obtain ⟨tb, pb⟩ := b
  simp only [zy.enc, List.map_cons, List.map_nil] at e1 e2 ⊢
  refine yf Tryz.func31 rfl (by kernel_rfl) ?_
  unfold Tryz.f31
  simp (disch := ((try simp only [LL]); omega)) only [↓GO, ↓yx, GA, GX, ren, zm, z8, refs, z7, cst, zo, isC, bin, una, z6, zc, blt, asArg, ze, zb, zf, z1, E.mkS, unN, zd, zn, za, GS2, simprocAttr, GZ, e1, e2, Bool.not_false, Bool.not_true, zD]
theorem Pq (a b : zy) (ha : GB a) (hb : GB b) (oa : y7 a = true) (ob : y7 b = true) :
 zk (EV Tryz.prog xp) 31 [.agg (a.enc.map .t), .agg (b.enc.map .t)] = some (.t (.list 4 (zl.zA (zQ a b)))) := by
 have e1 := mP (sJ a ha)
 have e2 := mP (sJ b hb)
 rw [oa] at e1
 rw [ob] at e2
 have d1 := mP (QM a b ha hb)
 have h1 := tg a b
 have h2 := qn oa
 have h3 := qn ob
 have hcb := ha.len.2.2
 obtain ⟨cap1, L1⟩ := aB a b ha hb oa ob (yb a b) (by omega) (yb a b) [] [] 0 (some 0) rfl rfl (by omega)
 have h4 := vy (yU a b) 40 (vO oa ob) (yb a b)
 obtain ⟨cap2, L2⟩ := lO b hb a.packs h2 hcb a.packs [] ((yb a b).flatMap (yU a b)) _ cap1 rfl rfl (by omega)
 rw [show (yb a b).flatMap (yU a b) ++ a.packs.flatMap (wz b) = zQ a b from rfl] at L2
 simp only [List.length_nil, Int.natCast_zero, List.nil_append, show zl.zA [] = [] from rfl] at L1 L2
 have hnl := zj (yb a b)
 have ht : (zl.zA (zQ a b)).take (zQ a b).length = zl.zA (zQ a b) := by rw [← zl.zx (zQ a b)]; simp
 clear ha hb oa ob hcb
 generalize zQ a b = Z at *
 generalize (yb a b).flatMap (yU a b) = Y at *
 generalize yb a b = ns at *
 obtain ⟨ta, pa⟩ := a
 obtain ⟨tb, pb⟩ := b
 simp only [zy.enc, List.map_cons, List.map_nil] at e1 e2 d1 L1 L2 ⊢
 apply zq
 refine zr rfl Tryz.func31 rfl (by kernel_rfl) ?_
 unfold Tryz.f31
 simp (disch := ((try simp only [LL]); omega)) only [↓GO, ↓yx, GA, GX, ren, zm, z8, refs, z7, cst, zo, isC, bin, una, z6, zc, blt, asArg, ze, zb, zf, z1, E.mkS, unN, zd, zn, za, GS2, simprocAttr, GZ, ht, e1, e2, d1, hnl, L1, L2, zg.zx, Bool.not_true, zD]
theorem Xz (a b : zy) (ha : GB a) (hb : GB b) (h : (y7 a && y7 b) = false) :
 zk (EV Tryz.prog xp) 31 [.agg (a.enc.map .t), .agg (b.enc.map .t)] = some (.t (.list 4 [])) := by
 have e1 := mP (sJ a ha)
 have e2 := mP (sJ b hb)
 clear ha hb
 cases oa : y7 a with
 | false =>
  rw [oa] at e1
  clear e2 h oa
  obtain ⟨ta, pa⟩ := a
  obtain ⟨tb, pb⟩ := b
  simp only [zy.enc, List.map_cons, List.map_nil] at e1 ⊢
  apply zq
  refine zr rfl Tryz.func31 rfl (by kernel_rfl) ?_
  unfold Tryz.f31
  simp (disch := ((try simp only [LL]); omega)) only [↓GO, ↓yx, GA, GX, ren, zm, z8, refs, z7, cst, zo, isC, bin, una, z6, zc, blt, asArg, ze, zb, zf, z1, E.mkS, unN, zd, zn, za, GS2, simprocAttr, GZ, e1, Bool.not_false, zD]
 | true =>
  rw [oa, Bool.true_and] at h
  rw [oa] at e1
  rw [h] at e2
  clear h oa
  obtain ⟨ta, pa⟩ := a
  obtain ⟨tb, pb⟩ := b
  simp only [zy.enc, List.map_cons, List.map_nil] at e1 e2 ⊢
  apply zq
  refine zr rfl Tryz.func31 rfl (by kernel_rfl) ?_
  unfold Tryz.f31
  simp (disch := ((try simp only [LL]); omega)) only [↓GO, ↓yx, GA, GX, ren, zm, z8, refs, z7, cst, zo, isC, bin, una, z6, zc, blt, asArg, ze, zb, zf, z1, E.mkS, unN, zd, zn, za, GS2, simprocAttr, GZ, e1, e2, Bool.not_false, Bool.not_true, zD]
end Go.Proofs.YtijninlbpifonaaGreatDoor
/- Changes between graphs, by the reference. Conditions: those of each lemma. -/
namespace Go.Proofs.YtijninlbpifonaaGreatDoor
open E
set_option linter.unusedSimpArgs false
set_option linter.unusedVariables false
set_option maxRecDepth 100000
theorem c_tuR (name o n : Str) (ho : isV o = true ∧ o.length ≤ 1048700) (hn : isV n = true ∧ n.length ≤ 1048700) : zk (EV Tryz.prog xp) 207 [.t (.str name), .t (.str o), .t (.str n)] = some (.agg ((cond (decide (xi o n < 0)) (⟨2, name, o, n⟩ : zl) ⟨3, name, o, n⟩).enc.map .t)) := by
 have d1 := mP (iH o ho.2)
 have d2 := mP (iH n hn.2)
 have d3 := mP (aN (zE o).1 (zE n).1 (xG o ho.2).1 (xG n hn.2).1)
 change zk (EV Tryz.prog xp) 92 _ = some (.t (.int .i64 (xi o n))) at d3
 unfold rvT at d1 d2
 generalize xi o n = ct at *
 generalize (zE o).1 = v1 at *
 generalize (zE n).1 = v2 at *
 simp only [Ver.enc, List.map_cons, List.map_nil] at d1 d2 d3
 clear ho hn
 cases q : decide (ct < 0) with
 | true =>
  simp only [cond_true, zl.enc, List.map_cons, List.map_nil]
  apply zq
  refine zr rfl Tryz.func207 rfl (by kernel_rfl) ?_
  unfold Tryz.f207
  simp (disch := ((try simp only [LL]); omega)) only [↓GO, ↓yx, GA, GX, ren, zm, z8, refs, z7, cst, zo, isC, bin, una, z6, zc, blt, asArg, ze, zb, zf, z1, E.mkS, unN, zd, zn, za, GS2, simprocAttr, GZ, d1, d2, d3, q, zD]
 | false =>
  simp only [cond_false, zl.enc, List.map_cons, List.map_nil]
  apply zq
  refine zr rfl Tryz.func207 rfl (by kernel_rfl) ?_
  unfold Tryz.f207
  simp (disch := ((try simp only [LL]); omega)) only [↓GO, ↓yx, GA, GX, ren, zm, z8, refs, z7, cst, zo, isC, bin, una, z6, zc, blt, asArg, ze, zb, zf, z1, E.mkS, unN, zd, zn, za, GS2, simprocAttr, GZ, d1, d2, d3, q, zD]
theorem Qy (name : Str) (old new : List Str) (ho : gH old) (hn : gH new) : ∀ (d i : Nat) (acc : List zl) (m : Nat) (cap : Option Nat), i + d = max old.length new.length → m = acc.length → m + d ≤ 16777216 → ∃ cap',
 EV Tryz.prog xp (.loop 112 250 0 [.t (.str name), .sl 0 0 m cap, .t (.list 1 (strs old)), .t (.list 1 (strs new)), .t (.int .i64 (i : Int))] [.ts 4 (zl.zA acc)])
  = some (.loop (.exit 0) [.sl 0 0 (m + d) cap'] [.ts 4 (zl.zA (acc ++ (List.range' i d).map (vf name old new)))])
 | 0, i, acc, m, cap, hi, hm, hmM => by
  have c1 : decide ((i : Int) < (old.length : Int)) = false := by apply decide_eq_false; omega
  have c2 : decide ((i : Int) < (new.length : Int)) = false := by apply decide_eq_false; omega
  refine ⟨cap, ?_⟩
  simp only [List.range'_zero, List.map_nil, List.append_nil, Nat.add_zero]
  refine zh Tryz.func112 rfl rfl ?_
  simp (disch := ((try simp only [LL]); omega)) only [↓GO, ↓yx, GA, GX, ren, zm, z8, refs, z7, cst, zo, isC, bin, una, z6, zc, blt, asArg, ze, zb, zf, z1, E.mkS, unN, zd, zn, za, GS2, simprocAttr, GZ, c1, c2, zj, zD]
 | d + 1, i, acc, m, cap, hi, hm, hmM => by
  have hMl : i ≤ 1048576 := by have := ho.1; have := hn.1; omega
  have hsl : (zl.zA acc).length = m := by rw [zl.zx, hm]
  obtain ⟨cap', IH⟩ := Qy name old new ho hn d (i + 1) (acc ++ [vf name old new i]) (m + 1) none (by omega) (by simp [hm]) (by omega)
  rw [show ((i + 1 : Nat) : Int) = (i : Int) + 1 by omega] at IH
  rw [zl.vz] at IH
  refine ⟨cap', ?_⟩
  rw [dV, Qq, show m + (d + 1) = m + 1 + d by omega]
  generalize (acc ++ [vf name old new i]) ++ (List.range' (i + 1) d).map (vf name old new) = Z at *
  have hol := zj old
  have hnl := zj new
  by_cases hnew : i < new.length
  · have hg2 : (strs new)[i]? = some [.str new[i]] := yG new i hnew
    have e2 : new[i]? = some new[i] := List.getElem?_eq_getElem hnew
    have c1 : decide ((i : Int) ≥ (new.length : Int)) = false := by rw [cy]; simpa using hnew
    have l2 : decide ((i : Int) < (new.length : Int)) = true := by apply decide_eq_true; omega
    have hv2 := hn.2 _ (List.getElem_mem hnew)
    by_cases hold : i < old.length
    · have hg1 : (strs old)[i]? = some [.str old[i]] := yG old i hold
      have e1 : old[i]? = some old[i] := List.getElem?_eq_getElem hold
      have c2 : decide ((i : Int) ≥ (old.length : Int)) = false := by rw [cy]; simpa using hold
      have l1 : decide ((i : Int) < (old.length : Int)) = true := by apply decide_eq_true; omega
      have hv1 := ho.2 _ (List.getElem_mem hold)
      have d1 := c_tuR name old[i] new[i] hv1 hv2
      rw [show vf name old new i = cond (decide (xi old[i] new[i] < 0)) ⟨2, name, old[i], new[i]⟩ ⟨3, name, old[i], new[i]⟩ by unfold vf; rw [e1, e2]] at IH
      generalize cond (decide (xi old[i] new[i] < 0)) (⟨2, name, old[i], new[i]⟩ : zl) ⟨3, name, old[i], new[i]⟩ = ch at *
      generalize old[i] = o at *
      generalize new[i] = nw at *
      clear ho hn hv1 hv2 e1 e2
      obtain ⟨k1, k2, k3, k4⟩ := ch
      simp only [zl.enc, List.map_cons, List.map_nil] at d1 IH
      refine zh Tryz.func112 rfl rfl ?_
      simp (disch := ((try simp only [LL]); omega)) only [↓GO, ↓yx, GA, GX, ren, zm, z8, refs, z7, cst, zo, isC, bin, una, z6, zc, blt, asArg, ze, zb, zf, z1, E.mkS, unN, zd, zn, za, GS2, simprocAttr, GZ, c1, c2, l1, hg1, hg2, hol, hnl, d1, zi, hsl, zD, IH, xf]
      refine yJ (by kernel_rfl) ?_
      first | exact IH | simp (disch := ((try simp only [LL]); omega)) only [↓GO, ↓yx, GA, GX, ren, zm, z8, refs, z7, cst, zo, isC, bin, una, z6, zc, blt, asArg, ze, zb, zf, z1, E.mkS, unN, zd, zn, za, GS2, simprocAttr, GZ, IH, zi, zD]
    · have e1 : old[i]? = none := List.getElem?_eq_none (by omega)
      have c2 : decide ((i : Int) ≥ (old.length : Int)) = true := by rw [cy]; simpa using hold
      have l1 : decide ((i : Int) < (old.length : Int)) = false := by apply decide_eq_false; omega
      rw [show vf name old new i = ⟨0, name, [], new[i]⟩ by unfold vf; rw [e1, e2]] at IH
      simp only [zl.enc] at IH
      generalize new[i] = nw at *
      clear ho hn e1 e2
      refine zh Tryz.func112 rfl rfl ?_
      simp (disch := ((try simp only [LL]); omega)) only [↓GO, ↓yx, GA, GX, ren, zm, z8, refs, z7, cst, zo, isC, bin, una, z6, zc, blt, asArg, ze, zb, zf, z1, E.mkS, unN, zd, zn, za, GS2, simprocAttr, GZ, c1, c2, l1, l2, hg2, hol, hnl, zi, hsl, zD, IH, xf]
  · have hold : i < old.length := by omega
    have hg1 : (strs old)[i]? = some [.str old[i]] := yG old i hold
    have e1 : old[i]? = some old[i] := List.getElem?_eq_getElem hold
    have e2 : new[i]? = none := List.getElem?_eq_none (by omega)
    have c1 : decide ((i : Int) ≥ (new.length : Int)) = true := by rw [cy]; simpa using hnew
    have l1 : decide ((i : Int) < (old.length : Int)) = true := by apply decide_eq_true; omega
    rw [show vf name old new i = ⟨1, name, old[i], []⟩ by unfold vf; rw [e1, e2]] at IH
    simp only [zl.enc] at IH
    generalize old[i] = o at *
    clear ho hn e1 e2
    refine zh Tryz.func112 rfl rfl ?_
    simp (disch := ((try simp only [LL]); omega)) only [↓GO, ↓yx, GA, GX, ren, zm, z8, refs, z7, cst, zo, isC, bin, una, z6, zc, blt, asArg, ze, zb, zf, z1, E.mkS, unN, zd, zn, za, GS2, simprocAttr, GZ, c1, l1, hg1, hol, hnl, zi, hsl, zD, IH, xf]
theorem c_ofR (a b : zy) (ha : GB a) (hb : GB b) (oa : y7 a = true) (ob : y7 b = true) (x : Str) : zk (EV Tryz.prog xp) 112 [.agg (a.enc.map .t), .agg (b.enc.map .t), .t (.str x)] = some (.t (.list 4 (zl.zA (yU a b x)))) := by
 have va := uI ha x
 have vb := uI hb x
 have d1 := QK a ha x
 have d2 := QK b hb x
 have d3 := mP (QN (zP a x) (zP b x) va.1 vb.1)
 have d4 := mP (QN (zP b x) (zP a x) vb.1 va.1)
 have hcl := vO oa ob x
 have hcl' := hcl
 unfold yU at hcl'
 rw [sC] at hcl'
 obtain ⟨cap1, L⟩ := Qy x (woS (zP a x) (zP b x)) (woS (zP b x) (zP a x)) (o8 va (zP b x)) (o8 vb (zP a x)) _ 0 [] 0 (some 0) (Nat.zero_add _) rfl (by omega)
 rw [← mN, show cA x (woS (zP a x) (zP b x)) (woS (zP b x) (zP a x)) = yU a b x from rfl] at L
 have hcn : max (woS (zP a x) (zP b x)).length (woS (zP b x) (zP a x)).length = (yU a b x).length := by unfold yU; rw [sC]
 rw [hcn] at L
 have ht : (zl.zA (yU a b x)).take (yU a b x).length = zl.zA (yU a b x) := by rw [← zl.zx (yU a b x)]; simp
 simp only [Int.natCast_zero, List.nil_append, Nat.zero_add, show zl.zA [] = [] from rfl] at L
 clear ha hb oa ob va vb hcn hcl hcl'
 generalize yU a b x = CG at *
 generalize woS (zP a x) (zP b x) = old at *
 generalize woS (zP b x) (zP a x) = new at *
 generalize zP a x = VA at *
 generalize zP b x = VB at *
 obtain ⟨ta, pa⟩ := a
 obtain ⟨tb, pb⟩ := b
 simp only [zy.enc, List.map_cons, List.map_nil] at d1 d2 ⊢
 apply zq
 refine zr rfl Tryz.func112 rfl (by kernel_rfl) ?_
 unfold Tryz.f112
 simp (disch := ((try simp only [LL]); omega)) only [↓GO, ↓yx, GA, GX, ren, zm, z8, refs, z7, cst, zo, isC, bin, una, z6, zc, blt, asArg, ze, zb, zf, z1, E.mkS, unN, zd, zn, za, GS2, simprocAttr, GZ, d1, d2, d3, d4, L, ht, zD]
theorem TZ (a b : zy) (ha : GB a) (hb : GB b) (oa : y7 a = true) (ob : y7 b = true) (ns : List Str) (hl : ns.length ≤ 80) : ∀ (rest pre : List Str) (acc : List zl) (m : Nat) (cap : Option Nat), ns = pre ++ rest → m = acc.length → m + 40 * rest.length ≤ 1048576 → ∃ cap',
 EV Tryz.prog xp (.loop 30 250 0 [.ptr 0 0 0, .ptr 1 0 0, .sl 2 0 m cap, .t (.list 1 (strs ns)), .t (.int .i64 (pre.length : Int))] [.vs 2 [a.enc.map .t], .vs 2 [b.enc.map .t], .ts 4 (zl.zA acc)])
  = some (.loop (.exit 0) [.ptr 0 0 0, .ptr 1 0 0, .sl 2 0 (acc ++ rest.flatMap (yU a b)).length cap'] [.vs 2 [a.enc.map .t], .vs 2 [b.enc.map .t], .ts 4 (zl.zA (acc ++ rest.flatMap (yU a b)))])
 | [], pre, acc, m, cap, h, hm, hmM => by
  have c : decide ((pre.length : Int) < (ns.length : Int)) = false := by simp [h]
  refine ⟨cap, ?_⟩
  rw [List.flatMap_nil, List.append_nil, ← hm]
  clear ha hb oa ob
  obtain ⟨ta, pa⟩ := a
  obtain ⟨tb, pb⟩ := b
  simp only [zy.enc, List.map_cons, List.map_nil]
  refine zh Tryz.func30 rfl rfl ?_
  simp (disch := ((try simp only [LL]); omega)) only [↓GO, ↓yx, GA, GX, ren, zm, z8, refs, z7, cst, zo, isC, bin, una, z6, zc, blt, asArg, ze, zb, zf, z1, E.mkS, unN, zd, zn, za, GS2, simprocAttr, GZ, c, zj, zD]
 | x :: rest, pre, acc, m, cap, h, hm, hmM => by
  have c : decide ((pre.length : Int) < (ns.length : Int)) = true := by simp [h]; omega
  have hget : (strs ns)[pre.length]? = some [.str x] := yV (by rw [h]; simp)
  have hlen : pre.length + rest.length + 1 ≤ ns.length := by rw [h]; simp; omega
  have hsl : (zl.zA acc).length = m := by rw [zl.zx, hm]
  simp only [List.length_cons] at hmM
  have d1 := c_ofR a b ha hb oa ob x
  have hcl := vO oa ob x
  have hcgl := zl.zx (yU a b x)
  obtain ⟨cap', IH⟩ := TZ a b ha hb oa ob ns hl rest (pre ++ [x]) (acc ++ yU a b x) (m + (yU a b x).length) none (by rw [h]; simp) (by simp [hm]) (by omega)
  rw [show ((pre ++ [x]).length : Int) = (pre.length : Int) + 1 by simp, show zl.zA (acc ++ yU a b x) = zl.zA acc ++ zl.zA (yU a b x) by simp [zl.zA]] at IH
  refine ⟨cap', ?_⟩
  rw [List.flatMap_cons, ← List.append_assoc]
  clear h ha hb oa ob
  generalize (acc ++ yU a b x) ++ rest.flatMap (yU a b) = Z at *
  generalize hcg : (yU a b x).length = cg at *
  generalize yU a b x = CG at *
  obtain ⟨ta, pa⟩ := a
  obtain ⟨tb, pb⟩ := b
  simp only [zy.enc, List.map_cons, List.map_nil] at d1 IH ⊢
  refine zh Tryz.func30 rfl rfl ?_
  simp (disch := ((try simp only [LL]); omega)) only [↓GO, ↓yx, GA, GX, ren, zm, z8, refs, z7, cst, zo, isC, bin, una, z6, zc, blt, asArg, ze, zb, zf, z1, E.mkS, unN, zd, zn, za, GS2, simprocAttr, GZ, c, hget, d1, zj, hcgl, hsl, zi, zD, IH, xf]
  refine yJ (by kernel_rfl) ?_
  first | exact IH | simp (disch := ((try simp only [LL]); omega)) only [↓GO, ↓yx, GA, GX, ren, zm, z8, refs, z7, cst, zo, isC, bin, una, z6, zc, blt, asArg, ze, zb, zf, z1, E.mkS, unN, zd, zn, za, GS2, simprocAttr, GZ, IH, zi, zD]
theorem gz (a b : zy) (ha : GB a) (hb : GB b) : ∀ (rest pre : List zg) (acc : List zl) (m : Nat) (cap : Option Nat), a.packs = pre ++ rest → m = acc.length → m + rest.length ≤ 2097152 → ∃ cap',
 EV Tryz.prog xp (.loop 30 506 0 [.ptr 0 0 0, .ptr 1 0 0, .sl 2 0 m cap, .t (.int .i64 (pre.length : Int))] [.vs 2 [a.enc.map .t], .vs 2 [b.enc.map .t], .ts 4 (zl.zA acc)])
  = some (.loop (.exit 2) [.sl 0 0 (acc ++ rest.flatMap (wz b)).length cap'] [.ts 4 (zl.zA (acc ++ rest.flatMap (wz b)))])
 | [], pre, acc, m, cap, h, hm, hmM => by
  have c : decide ((pre.length : Int) < (a.packs.length : Int)) = false := by simp [h]
  refine ⟨cap, ?_⟩
  rw [List.flatMap_nil, List.append_nil, ← hm]
  clear ha hb
  obtain ⟨ta, pa⟩ := a
  obtain ⟨tb, pb⟩ := b
  simp only [zy.enc, List.map_cons, List.map_nil] at c ⊢
  refine zh Tryz.func30 rfl rfl ?_
  simp (disch := ((try simp only [LL]); omega)) only [↓GO, ↓yx, GA, GX, ren, zm, z8, refs, z7, cst, zo, isC, bin, una, z6, zc, blt, asArg, ze, zb, zf, z1, E.mkS, unN, zd, zn, za, GS2, simprocAttr, GZ, c, zg.zx, zD]
 | p :: rest, pre, acc, m, cap, h, hm, hmM => by
  have c : decide ((pre.length : Int) < (a.packs.length : Int)) = true := by simp [h]; omega
  have hget : (zg.zA a.packs)[pre.length]? = some p.enc := by rw [h]; simp [zg.zA]
  have hlen : pre.length + rest.length + 1 ≤ a.packs.length := by rw [h]; simp; omega
  have hal := ha.len.1
  have hpb := ha.len.2.2 p (by rw [h]; simp)
  have hsl : (zl.zA acc).length = m := by rw [zl.zx, hm]
  simp only [List.length_cons] at hmM
  have d1 := mP (gA p (by omega))
  have d2 := mP (Yo b (keyOf p) hb)
  rw [List.flatMap_cons, ← List.append_assoc]
  cases hf : nn b.packs (keyOf p) with
  | none =>
   rw [dC hf] at d2
   simp only [ixI] at d2
   have c2 : decide ((-1 : Int) ≥ 0) = false := rfl
   rw [show wz b p = [] by unfold wz; rw [hf], List.append_nil]
   obtain ⟨cap', IH⟩ := gz a b ha hb rest (pre ++ [p]) acc m cap (by rw [h]; simp) hm (by omega)
   rw [show ((pre ++ [p]).length : Int) = (pre.length : Int) + 1 by simp] at IH
   refine ⟨cap', ?_⟩
   clear h ha hb hf
   generalize acc ++ rest.flatMap (wz b) = Z at *
   generalize keyOf p = kp at *
   obtain ⟨ta, pa⟩ := a
   obtain ⟨tb, pb⟩ := b
   obtain ⟨pn, version, source, sums, dev, needs⟩ := p
   simp only [zy.enc, zg.enc, List.map_cons, List.map_nil] at c hget hlen hal d1 d2 IH ⊢
   refine zh Tryz.func30 rfl rfl ?_
   simp (disch := ((try simp only [LL]); omega)) only [↓GO, ↓yx, GA, GX, ren, zm, z8, refs, z7, cst, zo, isC, bin, una, z6, zc, blt, asArg, ze, zb, zf, z1, E.mkS, unN, zd, zn, za, GS2, simprocAttr, GZ, c, hget, zg.zx, d1, d2, c2, zi, zD, IH]
  | some q =>
   obtain ⟨hq, hkq, i, hi, hpi⟩ := dB hf
   rw [hi] at d2
   simp only [ixI] at d2
   have c2 : decide ((i : Int) ≥ 0) = true := by simp
   have hgq : (zg.zA b.packs)[i]? = some q.enc := by unfold zg.zA; rw [List.getElem?_map, hpi]; rfl
   have d3 := mP (c_spR p q hpb)
   cases hs : tC p q with
   | true =>
    rw [hs] at d3
    rw [show wz b p = [] by unfold wz; rw [hf]; simp only [hs, cond_true], List.append_nil]
    obtain ⟨cap', IH⟩ := gz a b ha hb rest (pre ++ [p]) acc m cap (by rw [h]; simp) hm (by omega)
    rw [show ((pre ++ [p]).length : Int) = (pre.length : Int) + 1 by simp] at IH
    refine ⟨cap', ?_⟩
    clear h ha hb hf hq hkq hi hpi hs
    generalize acc ++ rest.flatMap (wz b) = Z at *
    generalize keyOf p = kp at *
    obtain ⟨ta, pa⟩ := a
    obtain ⟨tb, pb⟩ := b
    obtain ⟨pn, version, source, sums, dev, needs⟩ := p
    obtain ⟨pn', version', source', sums', dev', needs'⟩ := q
    simp only [zy.enc, zg.enc, List.map_cons, List.map_nil] at c hget hgq hlen hal d1 d2 d3 IH ⊢
    refine zh Tryz.func30 rfl rfl ?_
    simp (disch := ((try simp only [LL]); omega)) only [↓GO, ↓yx, GA, GX, ren, zm, z8, refs, z7, cst, zo, isC, bin, una, z6, zc, blt, asArg, ze, zb, zf, z1, E.mkS, unN, zd, zn, za, GS2, simprocAttr, GZ, c, hget, zg.zx, d1, d2, c2, hgq, d3, Bool.not_true, zi, zD, IH]
   | false =>
    rw [hs] at d3
    rw [show wz b p = [⟨4, p.name, p.version, p.version⟩] by unfold wz; rw [hf]; simp only [hs, cond_false]]
    obtain ⟨cap', IH⟩ := gz a b ha hb rest (pre ++ [p]) (acc ++ [⟨4, p.name, p.version, p.version⟩]) (m + 1) none (by rw [h]; simp) (by simp [hm]) (by omega)
    rw [show ((pre ++ [p]).length : Int) = (pre.length : Int) + 1 by simp] at IH
    rw [zl.vz] at IH
    refine ⟨cap', ?_⟩
    clear h ha hb hf hq hkq hi hpi hs
    generalize acc ++ [⟨4, p.name, p.version, p.version⟩] ++ rest.flatMap (wz b) = Z at *
    generalize keyOf p = kp at *
    obtain ⟨ta, pa⟩ := a
    obtain ⟨tb, pb⟩ := b
    obtain ⟨pn, version, source, sums, dev, needs⟩ := p
    obtain ⟨pn', version', source', sums', dev', needs'⟩ := q
    simp only [zy.enc, zg.enc, zl.enc, List.map_cons, List.map_nil] at c hget hgq hlen hal d1 d2 d3 IH ⊢
    refine zh Tryz.func30 rfl rfl ?_
    simp (disch := ((try simp only [LL]); omega)) only [↓GO, ↓yx, GA, GX, ren, zm, z8, refs, z7, cst, zo, isC, bin, una, z6, zc, blt, asArg, ze, zb, zf, z1, E.mkS, unN, zd, zn, za, GS2, simprocAttr, GZ, c, hget, zg.zx, d1, d2, c2, hgq, d3, Bool.not_false, zi, hsl, zD, IH, xf]
theorem c_chR (a b : zy) (ha : GB a) (hb : GB b) : zk (EV Tryz.prog xp) 30 [.agg (a.enc.map .t), .agg (b.enc.map .t)] = some (.t (.list 4 (zl.zA (wZ a b)))) := by
 have e1 := mP (Sf a ha)
 have e2 := mP (Sf b hb)
 unfold wZ
 cases oa : y7 a with
 | false =>
  rw [oa] at e1
  clear e2 ha hb oa
  rw [Bool.false_and, cond_false]
  obtain ⟨ta, pa⟩ := a
  obtain ⟨tb, pb⟩ := b
  simp only [zy.enc, List.map_cons, List.map_nil, show zl.zA [] = [] from rfl] at e1 ⊢
  apply zq
  refine zr rfl Tryz.func30 rfl (by kernel_rfl) ?_
  unfold Tryz.f30
  simp (disch := ((try simp only [LL]); omega)) only [↓GO, ↓yx, GA, GX, ren, zm, z8, refs, z7, cst, zo, isC, bin, una, z6, zc, blt, asArg, ze, zb, zf, z1, E.mkS, unN, zd, zn, za, GS2, simprocAttr, GZ, e1, Bool.not_false, zD, List.take_nil]
 | true =>
  rw [oa] at e1
  cases ob : y7 b with
  | false =>
   rw [ob] at e2
   clear ha hb oa ob
   rw [Bool.and_false, cond_false]
   obtain ⟨ta, pa⟩ := a
   obtain ⟨tb, pb⟩ := b
   simp only [zy.enc, List.map_cons, List.map_nil, show zl.zA [] = [] from rfl] at e1 e2 ⊢
   apply zq
   refine zr rfl Tryz.func30 rfl (by kernel_rfl) ?_
   unfold Tryz.f30
   simp (disch := ((try simp only [LL]); omega)) only [↓GO, ↓yx, GA, GX, ren, zm, z8, refs, z7, cst, zo, isC, bin, una, z6, zc, blt, asArg, ze, zb, zf, z1, E.mkS, unN, zd, zn, za, GS2, simprocAttr, GZ, e1, e2, Bool.not_false, Bool.not_true, zD, List.take_nil]
  | true =>
   rw [ob] at e2
   rw [Bool.and_self, cond_true]
   have d1 := mP (c_nmR a b ha hb)
   have h1 := tg a b
   have h2 := qn oa
   have h3 := qn ob
   obtain ⟨cap1, L1⟩ := TZ a b ha hb oa ob (yb a b) (by omega) (yb a b) [] [] 0 (some 0) rfl rfl (by omega)
   have h4 := vy (yU a b) 40 (vO oa ob) (yb a b)
   obtain ⟨cap2, L2⟩ := gz a b ha hb a.packs [] ((yb a b).flatMap (yU a b)) _ cap1 rfl rfl (by omega)
   rw [show (yb a b).flatMap (yU a b) ++ a.packs.flatMap (wz b) = zQ a b from rfl] at L2
   simp only [List.length_nil, Int.natCast_zero, List.nil_append, show zl.zA [] = [] from rfl] at L1 L2
   have ht : (zl.zA (zQ a b)).take (zQ a b).length = zl.zA (zQ a b) := by rw [← zl.zx (zQ a b)]; simp
   clear ha hb oa ob
   generalize zQ a b = Z at *
   generalize (yb a b).flatMap (yU a b) = Y at *
   generalize yb a b = ns at *
   obtain ⟨ta, pa⟩ := a
   obtain ⟨tb, pb⟩ := b
   simp only [zy.enc, List.map_cons, List.map_nil] at e1 e2 d1 L1 L2 ⊢
   apply zq
   refine zr rfl Tryz.func30 rfl (by kernel_rfl) ?_
   unfold Tryz.f30
   simp (disch := ((try simp only [LL]); omega)) only [↓GO, ↓yx, GA, GX, ren, zm, z8, refs, z7, cst, zo, isC, bin, una, z6, zc, blt, asArg, ze, zb, zf, z1, E.mkS, unN, zd, zn, za, GS2, simprocAttr, GZ, e1, e2, d1, L1, L2, ht, Bool.not_true, zD]
end Go.Proofs.YtijninlbpifonaaGreatDoor
/- The law of Changes. Conditions: those of each lemma. -/
namespace Go.Proofs.YtijninlbpifonaaGreatDoor
open E
set_option linter.unusedSimpArgs false
set_option linter.unusedVariables false
set_option maxRecDepth 100000
theorem fW (ks : List Str) (n : Nat) (h : n = ks.length) : (strs ks).take n = strs ks := List.take_of_length_le (by rw [zj]; omega)
theorem fX (cs : List zg) (n : Nat) (h : n = cs.length) : (ocE (zg.zA cs)).take n = ocE (zg.zA cs) := List.take_of_length_le (by rw [qZ, zg.zx]; omega)
theorem aU (cs : List zl) (n : Nat) (h : n = cs.length) : (zl.zA cs).take n = zl.zA cs := List.take_of_length_le (by rw [zl.zx]; omega)
theorem Xt {name : Str} {old new : List Str} (hn : name.length ≤ 1048576) (ho : gH old) (hw : gH new) (i : Nat) : (vf name old new i).zO ≤ 4194304 := by
 have h1 : ∀ o, old[i]? = some o → o.length ≤ 1048700 := fun o h => (ho.2 o (List.mem_of_getElem? h)).2
 have h2 : ∀ o, new[i]? = some o → o.length ≤ 1048700 := fun o h => (hw.2 o (List.mem_of_getElem? h)).2
 unfold vf
 split
 · rename_i o n e1 e2
   have := h1 o e1
   have := h2 n e2
   cases decide (xi o n < 0) <;> simp only [cond_true, cond_false, zl.zO] <;> omega
 · rename_i o e1 e2
   have := h1 o e1
   simp only [zl.zO, List.length_nil]; omega
 · rename_i n e1 e2
   have := h2 n e2
   simp only [zl.zO, List.length_nil]; omega
 · simp only [zl.zO, List.length_nil]; omega
theorem ka {a b : zy} (ha : GB a) (hb : GB b) : ∀ c ∈ wZ a b, c.zO ≤ 4194304 := by
 intro c hc
 unfold wZ at hc
 cases ho : (y7 a && y7 b) with
 | false => rw [ho] at hc; simp at hc
 | true =>
  rw [ho, cond_true] at hc
  unfold zQ at hc
  rcases List.mem_append.1 hc with h | h
  · obtain ⟨n, hn, h⟩ := List.mem_flatMap.1 h
    unfold yb at hn
    rw [cE] at hn
    obtain ⟨p, hp, rfl⟩ := List.mem_map.1 hn
    have hpb : p.zO ≤ 1048576 := by
     rcases List.mem_append.1 hp with hp | hp
     · exact ha.len.2.2 p hp
     · exact hb.len.2.2 p hp
    simp only [zg.zO] at hpb
    unfold yU cA at h
    obtain ⟨i, _, rfl⟩ := List.mem_map.1 h
    exact Xt (by omega) (o8 (uI ha _) _) (o8 (uI hb _) _) i
  · obtain ⟨p, hp, h⟩ := List.mem_flatMap.1 h
    have hpb := ha.len.2.2 p hp
    simp only [zg.zO] at hpb
    unfold wz at h
    split at h
    · rename_i q _
      cases hs : tC p q with
      | true => rw [hs] at h; simp at h
      | false =>
       rw [hs, cond_false] at h
       simp only [List.mem_singleton] at h
       subst h
       simp only [zl.zO]; omega
    · simp at h
set_option maxHeartbeats 16000000 in
theorem ni (a b : zy) (oa : a.ok) (ob : b.ok) (hb : a.zO + b.zO ≤ 1048576) :
 EV Tryz.prog xp (.call 5 [.agg (a.enc.map .t), .agg (b.enc.map .t)] []) = some (.call (.t (.bool true)) []) := by
 have hA : GB a := by unfold GB; omega
 have hB : GB b := by unfold GB; omega
 have hsz := mP (r6 a oa 1048576 (by omega) (by omega))
 rw [vo (by omega)] at hsz
 have hsz2 := mP (r6 b ob (1048576 - (a.zO : Int)) (by omega) (by omega))
 rw [vo (by omega)] at hsz2
 have c2 : decide (1048576 - (a.zO : Int) < 0) = false := by apply decide_eq_false; omega
 have c3 : decide (1048576 - (a.zO : Int) - (b.zO : Int) < 0) = false := by apply decide_eq_false; omega
 have hto := Sd a (by omega)
 have htO := Sc a (by omega)
 have heqG := jN a (by omega)
 have hto2 := Sd b (by omega)
 have htO2 := Sc b (by omega)
 have heqG2 := jN b (by omega)
 unfold gn at heqG heqG2
 unfold F5 at htO htO2
 unfold F6 at hto hto2
 replace hto := mP hto
 replace hto2 := mP hto2
 replace heqG := mP heqG
 replace heqG2 := mP heqG2
 replace htO := mO htO
 replace htO2 := mO htO2
 have hR := c_chR a b hA hB
 have hbk := ka hA hB
 have hl1 : a.top.length + ya a.top + (a.packs.length + zg.zL a.packs) ≤ 1048576 := by have := hb; simp only [zy.zO] at this; omega
 have hl2 : b.top.length + ya b.top + (b.packs.length + zg.zL b.packs) ≤ 1048576 := by have := hb; simp only [zy.zO] at this; omega
 have hc1 := lv a.packs
 have hc2 := lv b.packs
 have hM1 := mO (Yl a.top a.packs (by omega) (by omega) a.top.length a.packs.length rfl rfl (some a.top.length) (some a.packs.length) 1 (by omega))
 have hM2 := mO (Yl b.top b.packs (by omega) (by omega) b.top.length b.packs.length rfl rfl (some b.top.length) (some b.packs.length) (1 + a.top.length + yt a.packs) (by omega))
 have g1 : decide (((1 + a.top.length + yt a.packs + b.top.length + yt b.packs : Nat) : Int) < 0) = false := by apply decide_eq_false; omega
 rw [show ((1 : Nat) : Int) = 1 from rfl] at hM1
 have t1 := fW a.top a.top.length rfl
 have t2 := fX a.packs a.packs.length rfl
 have t3 := fW b.top b.top.length rfl
 have t4 := fX b.packs b.packs.length rfl
 cases ho : (y7 a && y7 b) with
 | true =>
  have e : wZ a b = zQ a b := by unfold wZ; rw [ho]; rfl
  have ho' := ho
  simp only [Bool.and_eq_true] at ho'
  obtain ⟨cap, hI⟩ := c_chI a b hA hB ho'.1 ho'.2
  have hIp := Pq a b hA hB ho'.1 ho'.2
  have hZl := ie ho'.1 ho'.2
  rw [e] at hR hbk
  have heqC := mP (nf (zQ a b) (by omega) (fun c hc => b9 c (hbk c hc)))
  have hM3 := mO (UD (zQ a b) (by omega) cap 1 (by omega) (zQ a b).length rfl)
  have hH := mP (dX (zQ a b).length 1 (by omega) (by omega))
  rw [show ((1 : Nat) : Int) = 1 from rfl] at hM3 hH
  have g2 : decide (((1 + 4 * (zQ a b).length : Nat) : Int) < 0) = false := by apply decide_eq_false; omega
  have t5 := aU (zQ a b) (zQ a b).length rfl
  have t6 := aU (ve (zQ a b).length 1) (zQ a b).length (su _ _).symm
  have f1 : tQ (zl.zA (zQ a b)) = true := by
   unfold tQ zl.zA
   rw [List.all_eq_true]
   intro x hx
   obtain ⟨y, _, rfl⟩ := List.mem_map.1 hx
   rfl
  clear oa ob hb hbk hA hB ho ho' hc1 hc2 hl1 hl2 hZl e
  generalize zQ a b = Z at *
  obtain ⟨ta, pa⟩ := a
  obtain ⟨tb, pb⟩ := b
  generalize (zy.mk ta pa).zO = ba at *
  generalize (zy.mk tb pb).zO = bb at *
  simp only [zy.enc, List.map_cons, List.map_nil] at hsz hsz2 hto htO heqG hto2 htO2 heqG2 hR hI hIp hM1 hM2 g1 t1 t2 t3 t4 ⊢
  generalize yt pa = m0 at *
  generalize yt pb = m1 at *
  generalize xh (1 + ta.length) pa = mca at *
  generalize xh (1 + ta.length + m0 + tb.length) pb = mcb at *
  generalize mkS ta.length 1 = msa at *
  generalize mkS tb.length (1 + ta.length + m0) = msb at *
  generalize ve Z.length 1 = mz at *
  refine zr rfl Tryz.func5 rfl (by kernel_rfl) ?_
  unfold Tryz.f5
  simp (disch := ((try simp only [LL]); omega)) only [↓GO, ↓yx, GA, GX, ren, zm, z8, refs, z7, cst, zo, isC, bin, una, z6, zc, blt, asArg, ze, zb, zf, z1, E.mkS, unN, zd, zn, za, GS2, simprocAttr, yj, yk, tM, uA, uQ, uP, tN, gh1, uz, vK, vT, xc, mkO, vU, vL, xV, tL, yz, uy, uw, yK, oc, oTs, oT, yH, yH.rowTs, vS, isL, Bool.not_false, Bool.true_and, Bool.and_true, Bool.and_self, List.flatMap_append, List.map_append, List.set_cons_zero, List.set_cons_succ, GZ, hsz, hsz2, c2, c3, hto, htO, hto2, htO2, heqG, heqG2, heqC, hR, hI, hIp, hM1, hM2, hM3, hH, g1, g2, t1, t2, t3, t4, t5, t6, f1, List.drop_zero, mU, xt, yQ, bne_self_eq_false, zD]
 | false =>
  have hI := UJ a b hA hB ho
  have hIp := Xz a b hA hB ho
  have e : wZ a b = [] := by unfold wZ; rw [ho]; rfl
  rw [e, show zl.zA [] = [] from rfl] at hR
  have heqC := mP (nf [] (by simp) (fun c hc => by simp at hc))
  rw [show zl.zA [] = [] from rfl] at heqC
  have hM3 := mO (Xx 1)
  have hH := mP (dX 0 1 (by omega) (by omega))
  rw [Nat.mul_zero, Nat.add_zero, show ((1 : Nat) : Int) = 1 from rfl, show ve 0 1 = [] from rfl, show zl.zA [] = [] from rfl] at hH
  rw [show ((1 : Nat) : Int) = 1 from rfl] at hM3
  clear oa ob hb hbk hA hB ho hc1 hc2 hl1 hl2 e
  obtain ⟨ta, pa⟩ := a
  obtain ⟨tb, pb⟩ := b
  generalize (zy.mk ta pa).zO = ba at *
  generalize (zy.mk tb pb).zO = bb at *
  simp only [zy.enc, List.map_cons, List.map_nil] at hsz hsz2 hto htO heqG hto2 htO2 heqG2 hR hI hIp hM1 hM2 g1 t1 t2 t3 t4 ⊢
  generalize yt pa = m0 at *
  generalize yt pb = m1 at *
  generalize xh (1 + ta.length) pa = mca at *
  generalize xh (1 + ta.length + m0 + tb.length) pb = mcb at *
  generalize mkS ta.length 1 = msa at *
  generalize mkS tb.length (1 + ta.length + m0) = msb at *
  refine zr rfl Tryz.func5 rfl (by kernel_rfl) ?_
  unfold Tryz.f5
  simp (disch := ((try simp only [LL]); omega)) only [↓GO, ↓yx, GA, GX, ren, zm, z8, refs, z7, cst, zo, isC, bin, una, z6, zc, blt, asArg, ze, zb, zf, z1, E.mkS, unN, zd, zn, za, GS2, simprocAttr, yj, yk, tM, uA, uQ, uP, tN, gh1, uz, vK, vT, xc, mkO, vU, vL, xV, tL, yz, uy, uw, yK, oc, oTs, oT, yH, yH.rowTs, vS, isL, Bool.not_false, Bool.true_and, Bool.and_true, Bool.and_self, List.flatMap_append, List.map_append, List.set_cons_zero, List.set_cons_succ, GZ, hsz, hsz2, c2, c3, hto, htO, hto2, htO2, heqG, heqG2, heqC, hR, hI, hIp, hM1, hM2, hM3, hH, g1, t1, t2, t3, t4, List.drop_zero, mU, xt, yQ, bne_self_eq_false, zD]
theorem ig (a b : zy) (oa : a.ok) (ob : b.ok) :
 EV Tryz.prog xp (.call 5 [.agg (a.enc.map .t), .agg (b.enc.map .t)] []) = some (.call (.t (.bool true)) []) := by
 have hsz := mP (r6 a oa 1048576 (by omega) (by omega))
 by_cases hb1 : a.zO ≤ 1048576
 · by_cases hb : a.zO + b.zO ≤ 1048576
   · exact ni a b oa ob hb
   · rw [vo (by omega)] at hsz
     have hsz2 := mP (r6 b ob (1048576 - (a.zO : Int)) (by omega) (by omega))
     have hle : left (1048576 - (a.zO : Int)) b.zO = -1 := if_pos (by omega)
     rw [hle] at hsz2
     have c2 : decide (1048576 - (a.zO : Int) < 0) = false := by apply decide_eq_false; omega
     clear hb hle oa ob
     obtain ⟨ta, pa⟩ := a
     obtain ⟨tb, pb⟩ := b
     generalize (zy.mk ta pa).zO = ba at *
     simp only [zy.enc, List.map_cons, List.map_nil] at hsz hsz2 ⊢
     refine zr rfl Tryz.func5 rfl (by kernel_rfl) ?_
     unfold Tryz.f5
     simp (disch := ((try simp only [LL]); omega)) only [↓GO, ↓yx, GA, GX, ren, zm, z8, refs, z7, cst, zo, isC, bin, una, z6, zc, blt, asArg, ze, zb, zf, z1, E.mkS, unN, zd, zn, za, GS2, simprocAttr, yj, yk, tM, uA, uQ, uP, tN, gh1, uz, vK, vT, xc, mkO, vU, vL, xV, tL, yz, uy, uw, yK, oc, oTs, oT, yH, yH.rowTs, vS, isL, Bool.not_false, Bool.true_and, Bool.and_true, Bool.and_self, List.flatMap_append, List.map_append, List.set_cons_zero, List.set_cons_succ, GZ, hsz, hsz2, c2]
 · have hle : left 1048576 a.zO = -1 := if_pos (by omega)
   rw [hle] at hsz
   clear hb1 hle oa ob
   obtain ⟨ta, pa⟩ := a
   obtain ⟨tb, pb⟩ := b
   simp only [zy.enc, List.map_cons, List.map_nil] at hsz ⊢
   refine zr rfl Tryz.func5 rfl (by kernel_rfl) ?_
   unfold Tryz.f5
   simp (disch := ((try simp only [LL]); omega)) only [↓GO, ↓yx, GA, GX, ren, zm, z8, refs, z7, cst, zo, isC, bin, una, z6, zc, blt, asArg, ze, zb, zf, z1, E.mkS, unN, zd, zn, za, GS2, simprocAttr, yj, yk, tM, uA, uQ, uP, tN, gh1, uz, vK, vT, xc, mkO, vU, vL, xV, tL, yz, uy, uw, yK, oc, oTs, oT, yH, yH.rowTs, vS, isL, Bool.not_false, Bool.true_and, Bool.and_true, Bool.and_self, List.flatMap_append, List.map_append, List.set_cons_zero, List.set_cons_succ, GZ, hsz]
end Go.Proofs.YtijninlbpifonaaGreatDoor
/- The law of Changes at what is handed in. Conditions: none. -/
namespace Go.Proofs.YtijninlbpifonaaGreatDoor
open E
set_option linter.unusedSimpArgs false
set_option linter.unusedVariables false
set_option maxRecDepth 100000
theorem b6 (xs : List V) (h : WTA Tryz.prog [25, 25] xs) : EV Tryz.prog xp (.call 5 xs []) = some (.call (.t (.bool true)) []) := by
 obtain ⟨cs, v, vs, rfl, h1, h2, h3⟩ := h.db
 obtain ⟨cs1, v1, vs1, rfl, k1, k2, k3⟩ := h3.db
 have := k3.Rp
 subst this
 obtain ⟨a, rfl, oa⟩ := cf h1
 obtain ⟨b, rfl, ob⟩ := cf k1
 obtain ⟨ta, pa⟩ := a
 obtain ⟨tb, pb⟩ := b
 have e : zG Tryz.prog 25 = true := by kernel_rfl
 rw [e] at h2 k2
 simp [zc, zy.enc] at h2 k2
 subst h2 k2
 exact ig ⟨ta, pa⟩ ⟨tb, pb⟩ oa ob
end Go.Proofs.YtijninlbpifonaaGreatDoor

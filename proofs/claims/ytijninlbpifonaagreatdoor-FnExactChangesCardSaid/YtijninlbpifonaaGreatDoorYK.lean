/- Joined: N0 N2 K1 K2 P2 K3 K4 K5 K6 I1 I2 V3. Conditions: those of each lemma. -/
import Derived.Test.YtijninlbpifonaaGreatDoorYJ
import Derived.Lib.ItoaMem
import Derived.Test.YtijninlbpifonaaGreatDoorYI
set_option linter.unusedVariables false
set_option linter.unusedSimpArgs false
namespace Go.Proofs.YtijninlbpifonaaGreatDoor
open E
set_option linter.unusedSimpArgs false
set_option linter.unusedVariables false
set_option maxRecDepth 100000
theorem mo : ∀ (k u : Nat), 1 ≤ k → u < 10 ^ k → Lib.nDigits u ≤ k
 | 0, u, h, _ => by omega
 | k + 1, u, _, h => by
  rw [Lib.nDigits]
  split
  · omega
  · have h10 : u / 10 < 10 ^ k := by rw [Nat.pow_succ] at h; omega
    have hk : 1 ≤ k := by
     rcases Nat.eq_zero_or_pos k with rfl | h
     · simp at h10; omega
     · exact h
    have := mo k (u / 10) hk h10
    omega
theorem we (n : Int) (h0 : 0 ≤ n) (h1 : n ≤ 999999999) : (Lib.itoa n).length ≤ 9 := by
 obtain ⟨u, rfl⟩ : ∃ u : Nat, n = u := ⟨n.toNat, by omega⟩
 rw [Lib.itoa_nonneg, Lib.decDigits_length]
 exact mo 9 u (by omega) (by omega)
theorem gD (n : Int) (h0 : 0 ≤ n) (h1 : n ≤ 999999999) : zk (EV Tryz.prog pol) 243 [.t (.int .i64 n)] = some (.t (.str (Lib.itoa n))) := by
 have h := Pm n (by omega) (by omega)
 apply zq
 refine zr rfl Tryz.func243 rfl (by kernel_rfl) ?_
 unfold Tryz.f243
 simp only [↓GO, ↓DRW, GA, GX, ren, zm, z8, refs, z7, cst, zo, isC, bin, una, z6, zc, blt, asArg, ze, zb, zf, z1, E.mkS, unN, zd, zn, za, GS, simprocAttr, h]
/-- the digits of a number, none for 0 -/
def Yb (m : Nat) : Str := if m = 0 then [] else Lib.decDigits m
theorem Xm (m : Nat) (h : m ≠ 0) : Yb m = Yb (m / 10) ++ [UInt8.ofNat (48 + m % 10)] := by
 unfold Yb
 rw [if_neg h]
 by_cases h10 : m < 10
 · rw [if_pos (by omega), Lib.decDigits_one h10, show m % 10 = m by omega]; rfl
 · rw [if_neg (by omega)]
   conv => lhs; rw [Lib.decDigits]
   rw [dif_neg h10]
theorem Uo (d : Nat) (h : d < 10) : (List.drop d [48, 49, 50, 51, 52, 53, 54, 55, 56, 57]).take (d + 1 - d) = [UInt8.ofNat (48 + d)] := by
 have : d = 0 ∨ d = 1 ∨ d = 2 ∨ d = 3 ∨ d = 4 ∨ d = 5 ∨ d = 6 ∨ d = 7 ∨ d = 8 ∨ d = 9 := by omega
 rcases this with rfl | rfl | rfl | rfl | rfl | rfl | rfl | rfl | rfl | rfl <;> rfl
theorem QE (n : Int) : ∀ (N m : Nat) (out : Str), m ≤ N → m ≤ 999999999 → out.length + m ≤ 1000000000 →
 EV Tryz.prog pol (.loop 256 124 0 [.t (.int .i64 n), .t (.str out), .t (.int .i64 (m : Int))] [])
 = some (.loop (.exit 0) [.t (.int .i64 n), .t (.str (Yb m ++ out))] [])
 | N, 0, out, h, h1, h2 => by
  refine zh Tryz.func256 rfl rfl ?_
  simp only [↓GO, ↓DRW, GA, GX, ren, zm, z8, refs, z7, cst, zo, isC, bin, una, z6, zc, blt, asArg, ze, zb, zf, z1, E.mkS, unN, zd, zn, za, GS, simprocAttr, Int.natCast_zero, bne_self_eq_false, Yb, if_true]
 | 0, m + 1, out, h, h1, h2 => by omega
 | N + 1, m + 1, out, h, h1, h2 => by
  generalize hm : m + 1 = x at *
  have c : (((x : Nat) : Int) == 0) = false := by simp; omega
  have e1 : ((x : Nat) : Int).tmod 10 = ((x % 10 : Nat) : Int) := (Int.ofNat_tmod x 10).symm
  have e2 : ((x : Nat) : Int).tdiv 10 = ((x / 10 : Nat) : Int) := (Int.ofNat_tdiv x 10).symm
  have hd : x % 10 < 10 := Nat.mod_lt _ (by omega)
  have c2 : decide (((x % 10 : Nat) : Int) < 0) = false := by simp only [decide_eq_false_iff_not]; omega
  have hdig := Uo (x % 10) hd
  have IH := QE n N (x / 10) (UInt8.ofNat (48 + x % 10) :: out) (by omega) (by omega) (by simp only [List.length_cons]; omega)
  rw [Xm x (by omega), List.append_assoc]
  rw [show [UInt8.ofNat (48 + x % 10)] ++ out = UInt8.ofNat (48 + x % 10) :: out from rfl]
  generalize UInt8.ofNat (48 + x % 10) = bd at *
  have w1 : IntKind.i64.wrap (((x % 10 : Nat) : Int) + 1) = ((x % 10 + 1 : Nat) : Int) := by rw [zi (by omega)]; omega
  have w2 : IntKind.i64.wrap ((x / 10 : Nat) : Int) = ((x / 10 : Nat) : Int) := zi (by omega)
  generalize x % 10 = xd at *
  generalize x / 10 = xq at *
  refine zh Tryz.func256 rfl rfl ?_
  simp (disch := ((try simp only [LL]); omega)) only [↓GO, ↓DRW, GA, GX, ren, zm, z8, refs, z7, cst, zo, isC, bin, una, z6, zc, blt, asArg, ze, zb, zf, z1, E.mkS, unN, zd, zn, za, GS, simprocAttr, bne, c, e1, e2, c2, w1, w2, hdig, xf, IH]
theorem gC (n : Int) (h0 : 0 ≤ n) (h1 : n ≤ 999999999) : zk (EV Tryz.prog pol) 256 [.t (.int .i64 n)] = some (.t (.str (Lib.itoa n))) := by
 obtain ⟨u, rfl⟩ : ∃ u : Nat, n = u := ⟨n.toNat, by omega⟩
 have IH := QE u u u [] (Nat.le_refl _) (by omega) (by simp; omega)
 rw [List.append_nil] at IH
 rw [Lib.itoa_nonneg]
 have c2 : decide ((u : Int) < 0) = false := by simp only [decide_eq_false_iff_not]; omega
 apply zq
 refine zr rfl Tryz.func256 rfl (by kernel_rfl) ?_
 unfold Tryz.f256
 by_cases hu : u = 0
 · subst hu
   rw [show Lib.decDigits 0 = [48] by rw [Lib.decDigits_one (by omega)]; rfl]
   simp only [↓GO, ↓DRW, GA, GX, ren, zm, z8, refs, z7, cst, zo, isC, bin, una, z6, zc, blt, asArg, ze, zb, zf, z1, E.mkS, unN, zd, zn, za, GS, simprocAttr, Int.natCast_zero]
 · have c : ((u : Int) == 0) = false := by simp; omega
   rw [show Lib.decDigits u = Yb u by simp [Yb, hu]]
   simp only [↓GO, ↓DRW, GA, GX, ren, zm, z8, refs, z7, cst, zo, isC, bin, una, z6, zc, blt, asArg, ze, zb, zf, z1, E.mkS, unN, zd, zn, za, GS, simprocAttr, c, IH, c2]
end Go.Proofs.YtijninlbpifonaaGreatDoor
/- The number of a text, by both. Conditions: those of each lemma. -/
namespace Go.Proofs.YtijninlbpifonaaGreatDoor
open E
set_option linter.unusedSimpArgs false
set_option linter.unusedVariables false
set_option maxRecDepth 100000
theorem aD (c : UInt8) : B2 (c.toNat : Int) 48 57 = isD c := by
 unfold B2 isD
 congr 1 <;> rw [decide_eq_decide] <;> omega
theorem YN (s : Str) (hl : s.length ≤ 281474976710656) : zk (EV Tryz.prog pol) 163 [.t (.str s)] = some (.t (.int .i64 (zH s))) := by
 have hat := Pr s hl
 apply zq
 refine zr rfl Tryz.func163 rfl (by kernel_rfl) ?_
 unfold Tryz.f163
 unfold zH
 cases ha : Lib.atoiAll s with
 | range => rw [ha] at hat; simp only at hat ⊢; simp (disch := ((try simp only [LL]); omega)) only [↓GO, ↓DRW, GA, GX, ren, zm, z8, refs, z7, cst, zo, isC, bin, una, z6, zc, blt, asArg, ze, zb, zf, z1, E.mkS, unN, zd, zn, za, GS, simprocAttr, hat]
 | ok v =>
  rw [ha] at hat
  simp only at hat ⊢
  have hw := sD v 0 999999999
  rw [show B2 v 0 999999999 = (decide (0 ≤ v) && decide (v ≤ 999999999)) from rfl] at hw
  cases hb : (decide (0 ≤ v) && decide (v ≤ 999999999)) with
  | false => rw [hb] at hw; simp (disch := ((try simp only [LL]); omega)) only [↓GO, ↓DRW, GA, GX, ren, zm, z8, refs, z7, cst, zo, isC, bin, una, z6, zc, blt, asArg, ze, zb, zf, z1, E.mkS, unN, zd, zn, za, GS, simprocAttr, hat, hw]
  | true =>
   rw [hb] at hw
   simp only [Bool.and_eq_true, decide_eq_true_eq] at hb
   have hd := gD v hb.1 hb.2
   cases he : (Lib.itoa v == s) <;> simp (disch := ((try simp only [LL]); omega)) only [↓GO, ↓DRW, GA, GX, ren, zm, z8, refs, z7, cst, zo, isC, bin, una, z6, zc, blt, asArg, ze, zb, zf, z1, E.mkS, unN, zd, zn, za, GS, simprocAttr, bne, hat, hw, hd, he]
 | _ => rw [ha] at hat; simp only at hat ⊢; simp (disch := ((try simp only [LL]); omega)) only [↓GO, ↓DRW, GA, GX, ren, zm, z8, refs, z7, cst, zo, isC, bin, una, z6, zc, blt, asArg, ze, zb, zf, z1, E.mkS, unN, zd, zn, za, GS, simprocAttr, hat]
theorem Qx (s : Str) (hl : s.length ≤ 9) : ∀ (rest pre : Str), s = pre ++ rest → pre.all isD = true →
 ∃ m : V, EV Tryz.prog pol (.loop 192 58 0 [.t (.str s), .t (.int .i64 (uu 0 pre : Nat)), .t (.int .i64 (pre.length : Int))] [])
 = some (cond (rest.all isD) (.loop (.exit 0) [.t (.str s), .bad, .t (.int .i64 (uu 0 s : Nat))] []) (.loop .ret [.t (.str s), .t (.int .i64 (-1)), m] []))
 | [], pre, hs, hd => by
  have c : decide ((pre.length : Int) < (s.length : Int)) = false := by simp [hs]
  have hp : s = pre := by simpa using hs
  refine ⟨.bad, zh Tryz.func192 rfl rfl ?_⟩
  simp only [↓GO, ↓DRW, GA, GX, ren, zm, z8, refs, z7, cst, zo, isC, bin, una, z6, zc, blt, asArg, ze, zb, zf, z1, E.mkS, unN, zd, zn, za, GS, simprocAttr, c]
  rw [hp]
 | b :: rest, pre, hs, hd => by
  have c : decide ((pre.length : Int) < (s.length : Int)) = true := by simp [hs]; omega
  have hget : s[pre.length]? = some b := by rw [hs]; exact tH pre b rest
  have hlen : s.length = pre.length + rest.length + 1 := by rw [hs]; simp; omega
  have hin := xZ (b.toNat : Int) 48 57
  rw [aD] at hin
  have c9 : decide ((s.length : Int) > 9) = false := by simp only [decide_eq_false_iff_not]; omega
  have hv := ny pre 0 hd
  have hp10 : (10 : Nat) ^ pre.length ≤ 10 ^ 9 := Nat.pow_le_pow_right (by omega) (by omega)
  have e9 : (10 : Nat) ^ 9 = 1000000000 := by decide
  have hb8 := Sl b
  cases hb : isD b with
  | false =>
   rw [hb] at hin
   refine ⟨.t (.int .i64 (uu 0 pre : Nat)), zh Tryz.func192 rfl rfl ?_⟩
   clear hs hlen
   simp (disch := omega) only [↓GO, ↓DRW, GA, GX, ren, zm, z8, refs, z7, cst, zo, isC, bin, una, z6, zc, blt, asArg, ze, zb, zf, z1, E.mkS, unN, zd, zn, za, GS, simprocAttr, c, hget, zi, conv, wrap_u8, hin, List.all_cons, hb]
  | true =>
   rw [hb] at hin
   have hd2 : (pre ++ [b]).all isD = true := by rw [List.all_append, hd]; simp [hb]
   obtain ⟨m, IH⟩ := Qx s hl rest (pre ++ [b]) (by rw [hs]; simp) hd2
   have hbb := (pg b).1 hb
   have hst : ((uu 0 (pre ++ [b]) : Nat) : Int) = 10 * ((uu 0 pre : Nat) : Int) + (b.toNat : Int) - 48 := by
    rw [kC, ql]; omega
   rw [hst, show ((pre ++ [b]).length : Int) = (pre.length : Int) + 1 by simp] at IH
   have hpl : pre.length ≤ 9 := by omega
   generalize uu 0 pre = vp at *
   generalize uu 0 s = vs at *
   clear hs hlen hst
   refine ⟨m, zh Tryz.func192 rfl rfl ?_⟩
   simp (disch := omega) only [↓GO, ↓DRW, GA, GX, ren, zm, z8, refs, z7, cst, zo, isC, bin, una, z6, zc, blt, asArg, ze, zb, zf, z1, E.mkS, unN, zd, zn, za, GS, simprocAttr, c, hget, zi, conv, wrap_u8, hin, List.all_cons, hb, c9, IH]
theorem l_rdL (s : Str) (h9 : 9 < s.length) (hl : s.length ≤ 281474976710656) :
 EV Tryz.prog pol (.loop 192 58 0 [.t (.str s), .t (.int .i64 0), .t (.int .i64 0)] []) = some (.loop .ret [.t (.str s), .t (.int .i64 (-1)), .t (.int .i64 0)] []) := by
 cases s with
 | nil => simp at h9
 | cons b r =>
  have c : decide ((0 : Int) < ((b :: r).length : Int)) = true := by simp only [decide_eq_true_eq]; omega
  have c9 : decide (((b :: r).length : Int) > 9) = true := by simp only [decide_eq_true_eq]; omega
  have hget : (b :: r)[0]? = some b := rfl
  have hin := xZ (b.toNat : Int) 48 57
  rw [aD] at hin
  have hb8 := Sl b
  generalize (b :: r) = s at *
  refine zh Tryz.func192 rfl rfl ?_
  cases hb : isD b with
  | false => rw [hb] at hin; simp (disch := omega) only [↓GO, ↓DRW, GA, GX, ren, zm, z8, refs, z7, cst, zo, isC, bin, una, z6, zc, blt, asArg, ze, zb, zf, z1, E.mkS, unN, zd, zn, za, GS, simprocAttr, c, sX, hget, zi, conv, wrap_u8, hin]
  | true => rw [hb] at hin; simp (disch := omega) only [↓GO, ↓DRW, GA, GX, ren, zm, z8, refs, z7, cst, zo, isC, bin, una, z6, zc, blt, asArg, ze, zb, zf, z1, E.mkS, unN, zd, zn, za, GS, simprocAttr, c, sX, hget, zi, conv, wrap_u8, hin, c9]
theorem iI (s : Str) (hl : s.length ≤ 281474976710656) : zk (EV Tryz.prog pol) 192 [.t (.str s)] = some (.t (.int .i64 (zH s))) := by
 rw [← YX]
 apply zq
 refine zr rfl Tryz.func192 rfl (by kernel_rfl) ?_
 unfold Tryz.f192
 unfold r8
 by_cases h9 : s.length ≤ 9
 · obtain ⟨m, IH⟩ := Qx s h9 s [] rfl rfl
   simp only [List.length_nil, Int.natCast_zero, mS] at IH
   have e9 : decide (s.length ≤ 9) = true := by simpa using h9
   have hv := ny s 0
   have hp10 : (10 : Nat) ^ s.length ≤ 10 ^ 9 := Nat.pow_le_pow_right (by omega) h9
   have e10 : (10 : Nat) ^ 9 = 1000000000 := by decide
   cases ha : s.all isD with
   | false => rw [ha] at IH; simp only [cond_false] at IH; simp (disch := ((try simp only [LL]); omega)) only [↓GO, ↓DRW, GA, GX, ren, zm, z8, refs, z7, cst, zo, isC, bin, una, z6, zc, blt, asArg, ze, zb, zf, z1, E.mkS, unN, zd, zn, za, GS, simprocAttr, IH]
   | true =>
    rw [ha] at IH; simp only [cond_true] at IH
    have hv' := hv ha
    have hd := gC (uu 0 s : Nat) (by omega) (by omega)
    cases hn : (s == []) with
    | true => simp (disch := ((try simp only [LL]); omega)) only [↓GO, ↓DRW, GA, GX, ren, zm, z8, refs, z7, cst, zo, isC, bin, una, z6, zc, blt, asArg, ze, zb, zf, z1, E.mkS, unN, zd, zn, za, GS, simprocAttr, IH, e9, hn]
    | false =>
     cases he : (Lib.itoa (uu 0 s : Nat) == s) <;> simp (disch := ((try simp only [LL]); omega)) only [↓GO, ↓DRW, GA, GX, ren, zm, z8, refs, z7, cst, zo, isC, bin, una, z6, zc, blt, asArg, ze, zb, zf, z1, E.mkS, unN, zd, zn, za, GS, simprocAttr, bne, IH, e9, hn, hd, he]
 · have e9 : decide (s.length ≤ 9) = false := by simpa using h9
   have IH := l_rdL s (by omega) (by omega)
   simp (disch := ((try simp only [LL]); omega)) only [↓GO, ↓DRW, GA, GX, ren, zm, z8, refs, z7, cst, zo, isC, bin, una, z6, zc, blt, asArg, ze, zb, zf, z1, E.mkS, unN, zd, zn, za, GS, simprocAttr, IH, e9]
end Go.Proofs.YtijninlbpifonaaGreatDoor
/- Names and plain texts, by both; parts between a byte. Conditions: those of each lemma. -/
namespace Go.Proofs.YtijninlbpifonaaGreatDoor
open E
set_option linter.unusedSimpArgs false
set_option linter.unusedVariables false
set_option maxRecDepth 100000
theorem Zc : ∀ p s : Str, (decide ((s.length : Int) ≥ (p.length : Int)) && (s.take p.length == p)) = p.isPrefixOf s
 | [], s => by
  have : decide ((s.length : Int) ≥ (([] : Str).length : Int)) = true := by simp
  rw [this]; simp [List.isPrefixOf]
 | a :: p, [] => by
  have : decide ((([] : Str).length : Int) ≥ ((a :: p).length : Int)) = false := by simp only [decide_eq_false_iff_not, List.length_cons, List.length_nil]; omega
  rw [this]; simp [List.isPrefixOf]
 | a :: p, b :: s => by
  have ih := Zc p s
  have e1 : decide (((b :: s).length : Int) ≥ ((a :: p).length : Int)) = decide ((s.length : Int) ≥ (p.length : Int)) := by
   rw [decide_eq_decide]; simp only [List.length_cons]; omega
  rw [e1, List.isPrefixOf, ← ih, List.length_cons, List.take_succ_cons]
  by_cases h : b = a
  · subst h
    have : (b :: List.take p.length s == b :: p) = (List.take p.length s == p) := by rw [Bool.eq_iff_iff]; simp
    rw [this]; simp
  · have h2 : (b :: List.take p.length s == a :: p) = false := by rw [beq_eq_false_iff_ne]; intro e; injection e with e1 e2; exact h e1
    have h3 : (a == b) = false := by rw [beq_eq_false_iff_ne]; exact fun e => h e.symm
    rw [h2, h3]; simp
theorem jM (s p : Str) (hs : s.length ≤ 9223372036854775807) (hp : p.length ≤ 9223372036854775807) : zk (EV Tryz.prog pol) 285 [.t (.str s), .t (.str p)] = some (.t (.bool (p.isPrefixOf s))) := by
 rw [← Zc]
 apply zq
 refine zr rfl Tryz.func285 rfl (by kernel_rfl) ?_
 unfold Tryz.f285
 cases h : decide ((s.length : Int) ≥ (p.length : Int)) with
 | false => simp (disch := ((try simp only [LL]); omega)) only [↓GO, ↓DRW, GA, GX, ren, zm, z8, refs, z7, cst, zo, isC, bin, una, z6, zc, blt, asArg, ze, zb, zf, z1, E.mkS, unN, zd, zn, za, GS, simprocAttr, GZ, h]
 | true =>
  have h2 := of_decide_eq_true h
  simp (disch := ((try simp only [LL]); omega)) only [↓GO, ↓DRW, GA, GX, ren, zm, z8, refs, z7, cst, zo, isC, bin, una, z6, zc, blt, asArg, ze, zb, zf, z1, E.mkS, unN, zd, zn, za, GS, simprocAttr, GZ, h]
theorem UE (s p : Str) (hs : s.length ≤ 9223372036854775807) (hp : p.length ≤ 9223372036854775807) : zk (EV Tryz.prog pol) 228 [.t (.str s), .t (.str p)] = some (.t (.bool (p.isPrefixOf s))) := by
 have h := jM s p hs hp
 apply zq
 refine zr rfl Tryz.func228 rfl (by kernel_rfl) ?_
 unfold Tryz.f228
 simp (disch := ((try simp only [LL]); omega)) only [↓GO, ↓DRW, GA, GX, ren, zm, z8, refs, z7, cst, zo, isC, bin, una, z6, zc, blt, asArg, ze, zb, zf, z1, E.mkS, unN, zd, zn, za, GS, simprocAttr, GZ, h]
theorem er : ∀ {p s : Str}, p.isPrefixOf s = true → p.length ≤ s.length
 | [], s, _ => by simp
 | a :: p, [], h => by simp [List.isPrefixOf] at h
 | a :: p, b :: s, h => by
  simp only [List.isPrefixOf, Bool.and_eq_true] at h
  have := er h.2
  simp only [List.length_cons]; omega
theorem b7 (s p : Str) (hs : s.length ≤ 9223372036854775807) (hp : p.length ≤ 9223372036854775807) : zk (EV Tryz.prog pol) 286 [.t (.str s), .t (.str p)] = some (.t (.str (cond (p.isPrefixOf s) (s.drop p.length) s))) := by
 have h := jM s p hs hp
 apply zq
 refine zr rfl Tryz.func286 rfl (by kernel_rfl) ?_
 unfold Tryz.f286
 cases hb : p.isPrefixOf s with
 | false => rw [hb] at h; simp (disch := ((try simp only [LL]); omega)) only [↓GO, ↓DRW, GA, GX, ren, zm, z8, refs, z7, cst, zo, isC, bin, una, z6, zc, blt, asArg, ze, zb, zf, z1, E.mkS, unN, zd, zn, za, GS, simprocAttr, GZ, h]
 | true =>
  have h2 := er hb
  rw [hb] at h; simp (disch := ((try simp only [LL]); omega)) only [↓GO, ↓DRW, GA, GX, ren, zm, z8, refs, z7, cst, zo, isC, bin, una, z6, zc, blt, asArg, ze, zb, zf, z1, E.mkS, unN, zd, zn, za, GS, simprocAttr, GZ, h]
theorem Xv (s p : Str) (hs : s.length ≤ 9223372036854775807) (hp : p.length ≤ 9223372036854775807) : zk (EV Tryz.prog pol) 230 [.t (.str s), .t (.str p)] = some (.t (.str (cond (p.isPrefixOf s) (s.drop p.length) s))) := by
 have h := b7 s p hs hp
 apply zq
 refine zr rfl Tryz.func230 rfl (by kernel_rfl) ?_
 unfold Tryz.f230
 simp (disch := ((try simp only [LL]); omega)) only [↓GO, ↓DRW, GA, GX, ren, zm, z8, refs, z7, cst, zo, isC, bin, una, z6, zc, blt, asArg, ze, zb, zf, z1, E.mkS, unN, zd, zn, za, GS, simprocAttr, GZ, h]
theorem SI (s : Str) : cond (([64] : Str).isPrefixOf s) (s.drop ([64] : Str).length) s = yL s := by
 cases s with
 | nil => rfl
 | cons x s =>
  by_cases h : x = 64
  · subst h; simp [List.isPrefixOf, yL]
  · have : (64 == x) = false := by rw [beq_eq_false_iff_ne]; exact fun e => h e.symm
    simp [List.isPrefixOf, yL, h, this]
theorem RY (b : UInt8) : zk (EV Tryz.prog pol) 232 [.t (.int .u8 (b.toNat : Int))] = some (.t (.bool (vX b))) := by
 have h1 := jL (b.toNat : Int)
 have h2 := pY (b.toNat : Int)
 apply zq
 refine zr rfl Tryz.func232 rfl (by kernel_rfl) ?_
 unfold Tryz.f232
 simp only [vX, nb]
 generalize hx : B2 (b.toNat : Int) 97 122 = x1 at *
 generalize hy : B2 (b.toNat : Int) 48 57 = x2 at *
 repeat' (first | (((first | with_reducible refine tG (fun hA => ?_) (fun hA => ?_) | with_reducible refine tE (fun hA => ?_) (fun hA => ?_)) <;> (try simp only [bne, Bool.not_eq_true', Bool.not_eq_false'] at hA) <;> (first | (have hP := Int.le_of_eq (eq_of_beq (α := Int) hA); have hQ := Int.le_of_eq (eq_of_beq (α := Int) hA).symm) | have hP := of_decide_eq_true hA | have hP := of_decide_eq_false hA | skip)) <;> (simp (disch := ((try simp only [LL]); omega)) only [↓GO, ↓DRW, GA, GX, ren, zm, z8, refs, z7, cst, zo, isC, bin, una, z6, zc, blt, asArg, ze, zb, zf, z1, E.mkS, unN, zd, zn, za, GS, simprocAttr, zi, bne, *])) | (simp (disch := ((try simp only [LL]); omega)) only [↓GO, ↓DRW, GA, GX, ren, zm, z8, refs, z7, cst, zo, isC, bin, una, z6, zc, blt, asArg, ze, zb, zf, z1, E.mkS, unN, zd, zn, za, GS, simprocAttr, zi, bne, *]))
theorem nX (b : UInt8) (s : Str) : lJ s [b] = yB b s := by
 rw [← kE]
 unfold lJ Lib.split Lib.countB
 rw [Lib.splitB_data]
theorem vu (x : Str) (l : List Str) : strs (x :: l) = [.str x] :: strs l := rfl
theorem qJ (a b : List Str) : strs (a ++ b) = strs a ++ strs b := by simp [strs]
theorem y9 : strs [] = [] := rfl
/-- a place in a list of texts, told by what stands ahead of it -/
theorem xJ (pre : List Str) (x : Str) (rest : List Str) : (strs (pre ++ x :: rest))[pre.length]? = some [.str x] := by
 rw [qJ, vu]
 have := tH (strs pre) [T.str x] (strs rest)
 rwa [zj] at this
theorem ZF (s : Str) (sc : Bool) (parts : List Str) (hl : parts.length ≤ 4294967296) (hb : ∀ p ∈ parts, p.length ≤ 4294967296) : ∀ (rest pre : List Str), parts = pre ++ rest →
 EV Tryz.prog pol (.loop 155 58 0 [.t (.str s), .t (.bool sc), .t (.list 1 (strs parts)), .t (.int .i64 (parts.length : Int)), .t (.int .i64 (pre.length : Int))] []) = some (cond (vP (sc && ((pre.length : Int) == 0)) rest) (.loop (.exit 0) [.t (.str s), .bad] []) (.loop .ret [.t (.str s), .t (.bool false)] []))
 | [], pre, hs => by
  have c : decide ((pre.length : Int) < (parts.length : Int)) = false := by simp [hs]
  refine zh Tryz.func155 rfl rfl ?_
  simp only [↓GO, ↓DRW, GA, GX, ren, zm, z8, refs, z7, cst, zo, isC, bin, una, z6, zc, blt, asArg, ze, zb, zf, z1, E.mkS, unN, zd, zn, za, GS, simprocAttr, c, vP]
 | x :: rest, pre, hs => by
  have c : decide ((pre.length : Int) < (parts.length : Int)) = true := by simp [hs]; omega
  have hget : (strs parts)[pre.length]? = some [.str x] := by rw [hs]; exact xJ pre x rest
  have hlen : pre.length + rest.length + 1 ≤ parts.length := by rw [hs]; simp; omega
  have hx : x.length ≤ 4294967296 := hb x (by rw [hs]; simp)
  have IH := ZF s sc parts hl hb rest (pre ++ [x]) (by rw [hs]; simp)
  have hc := YO 232 vX RY x (by omega)
  rw [show ((pre ++ [x]).length : Int) = (pre.length : Int) + 1 by simp] at IH
  have e0 : (((pre.length : Int) + 1 == 0)) = false := by rw [beq_eq_false_iff_ne]; omega
  rw [e0, Bool.and_false] at IH
  clear hs hb
  refine zh Tryz.func155 rfl rfl ?_
  rw [vP]
  have hN : (x == ry) = (x == [110, 111, 100, 101, 95, 109, 111, 100, 117, 108, 101, 115]) := rfl
  rw [hN]
  cases ha : x.all vX <;> rw [ha] at hc <;> cases h1 : (x == []) <;> cases h2 : (x == [110, 111, 100, 101, 95, 109, 111, 100, 117, 108, 101, 115]) <;> cases sc <;> cases h3 : ((pre.length : Int) == 0) <;>
   simp (disch := ((try simp only [LL]); omega)) only [↓GO, ↓DRW, GA, GX, ren, zm, z8, refs, z7, cst, zo, isC, bin, una, z6, zc, blt, asArg, ze, zb, zf, z1, E.mkS, unN, zd, zn, za, GS, simprocAttr, GZ, c, hget, zi, hc, h1, h2, h3, IH, zj]
theorem RX (s : Str) (hl : s.length ≤ 1048576) : zk (EV Tryz.prog pol) 155 [.t (.str s)] = some (.t (.bool (sH s))) := by
 have h1 := UE s [64] (by omega) (by simp)
 have h2 := Xv s [64] (by omega) (by simp)
 rw [SI] at h2
 have ht : (yL s).length ≤ s.length := by
  unfold yL; split
  · simp
  · split
    · simp
    · simp
 have hbk := wI 47 (yL s)
 have h3 := gi (yL s) [47] (by omega) (by simp)
 rw [nX] at h3
 have IH := ZF s (nj s) (yB 47 (yL s)) (by omega) (fun p hp => by have := wh hp; omega) _ [] rfl
 rw [show (([64] : Str).isPrefixOf s) = nj s from rfl] at h1
 simp only [List.length_nil, Int.natCast_zero, show ((0 : Int) == 0) = true from rfl, Bool.and_true] at IH
 apply zq
 refine zr rfl Tryz.func155 rfl (by kernel_rfl) ?_
 unfold Tryz.f155
 unfold sH
 cases hp : vP (nj s) (yB 47 (yL s)) <;> rw [hp] at IH <;> simp only [cond_true, cond_false] at IH <;>
  simp (disch := ((try simp only [LL]); omega)) only [↓GO, ↓DRW, GA, GX, ren, zm, z8, refs, z7, cst, zo, isC, bin, una, z6, zc, blt, asArg, ze, zb, zf, z1, E.mkS, unN, zd, zn, za, GS, simprocAttr, GZ, h1, h2, h3, zj, IH]
theorem aA (s : Str) (b : UInt8) (hl : s.length ≤ 4294967296) : ∀ (rest cur pre : Str) (out : List Str) (cap : Option Nat) (m : Nat), s = pre ++ (cur ++ rest) → m = pre.length + cur.length → out.length ≤ m →
 ∃ (out' : List Str) (fr : Nat) (cap' : Option Nat), out'.length ≤ s.length ∧ fr ≤ s.length ∧ out' ++ [s.drop fr] = out ++ (match yB b rest with | p :: r => (cur ++ p) :: r | [] => []) ∧
  EV Tryz.prog pol (.loop 191 122 0 [.t (.str s), .t (.int .u8 (b.toNat : Int)), .sl 0 0 out.length cap, .t (.int .i64 (pre.length : Int)), .t (.int .i64 (m : Int))] [.ts 1 (strs out)]) = some (.loop (.exit 0) [.t (.str s), .sl 0 0 out'.length cap', .t (.int .i64 (fr : Int))] [.ts 1 (strs out')])
 | [], cur, pre, out, cap, m, hs, hm, ho => by
  have c : decide ((m : Int) < (s.length : Int)) = false := by simp [hs]; omega
  have hn : s.length = pre.length + cur.length := by rw [hs]; simp
  refine ⟨out, pre.length, cap, by omega, by omega, ?_, ?_⟩
  · simp only [yB, hs, List.append_nil, List.drop_left]
  · refine zh Tryz.func191 rfl rfl ?_
    simp only [↓GO, ↓DRW, GA, GX, ren, zm, z8, refs, z7, cst, zo, isC, bin, una, z6, zc, blt, asArg, ze, zb, zf, z1, E.mkS, unN, zd, zn, za, GS, simprocAttr, c]
 | x :: rest, cur, pre, out, cap, m, hs, hm, ho => by
  have hn : s.length = pre.length + cur.length + rest.length + 1 := by rw [hs]; simp; omega
  have c : decide ((m : Int) < (s.length : Int)) = true := by simp only [decide_eq_true_eq]; omega
  have hget : s[m]? = some x := by
   rw [hs, hm, ← List.append_assoc, ← List.length_append]; exact tH (pre ++ cur) x rest
  by_cases hx : x = b
  · subst hx
    have hcut : (s.drop pre.length).take (m - pre.length) = cur := by
     rw [hs, hm, List.drop_left, show pre.length + cur.length - pre.length = cur.length by omega, List.take_left]
    obtain ⟨out', fr, cap', q1, q2, q3, q4⟩ := aA s x hl rest [] (pre ++ cur ++ [x]) (out ++ [cur]) none (m + 1) (by rw [hs]; simp) (by simp; omega) (by simp; omega)
    refine ⟨out', fr, cap', q1, q2, ?_, ?_⟩
    · rw [q3, vN]
      cases hc : yB x rest with
      | nil => exact absurd hc (rp x rest)
      | cons p r => simp
    · rw [show ((pre ++ cur ++ [x]).length : Int) = (m : Int) + 1 by simp; omega, show ((m + 1 : Nat) : Int) = (m : Int) + 1 by omega] at q4
      rw [qJ, vu, y9, List.length_append, List.length_cons, List.length_nil, Nat.zero_add] at q4
      have hol : out.length ≤ 4294967296 := by omega
      clear hs q3
      refine zh Tryz.func191 rfl rfl ?_
      simp (disch := ((try simp only [LL]); omega)) only [↓GO, ↓DRW, GA, GX, ren, zm, z8, refs, z7, cst, zo, isC, bin, una, z6, zc, blt, asArg, ze, zb, zf, z1, E.mkS, unN, zd, zn, za, GS, simprocAttr, GZ, c, hget, zi, hcut, q4, zj, xf]
  · have c2 : ((x.toNat : Int) == (b.toNat : Int)) = false := by
     rw [beq_eq_false_iff_ne]; intro e; exact hx (UInt8.toNat_inj.1 (by omega))
    obtain ⟨out', fr, cap', q1, q2, q3, q4⟩ := aA s b hl rest (cur ++ [x]) pre out cap (m + 1) (by rw [hs]; simp) (by simp; omega) (by omega)
    refine ⟨out', fr, cap', q1, q2, ?_, ?_⟩
    · rw [q3]
      cases hc : yB b rest with
      | nil => exact absurd hc (rp b rest)
      | cons p r => rw [w8 b x rest p r hx hc]; simp
    · rw [show ((m + 1 : Nat) : Int) = (m : Int) + 1 by omega] at q4
      clear hs q3
      refine zh Tryz.func191 rfl rfl ?_
      simp (disch := ((try simp only [LL]); omega)) only [↓GO, ↓DRW, GA, GX, ren, zm, z8, refs, z7, cst, zo, isC, bin, una, z6, zc, blt, asArg, ze, zb, zf, z1, E.mkS, unN, zd, zn, za, GS, simprocAttr, GZ, c, hget, zi, c2, q4, zj, xf]
theorem aM (s : Str) (b : UInt8) (hl : s.length ≤ 4194304) : zk (EV Tryz.prog pol) 191 [.t (.str s), .t (.int .u8 (b.toNat : Int))] = some (.t (.list 1 (strs (yB b s)))) := by
 obtain ⟨out, fr, cap, q1, q2, q3, q4⟩ := aA s b (by omega) s [] [] [] (some 0) 0 rfl rfl (by simp)
 simp only [List.nil_append, List.length_nil, Int.natCast_zero, y9] at q4 q3
 have e : (match yB b s with | p :: r => p :: r | [] => []) = yB b s := by cases yB b s <;> rfl
 rw [e] at q3
 have ho : (strs out ++ [[.str (List.drop fr s)]]) = strs (yB b s) := by rw [← q3, qJ]; rfl
 have ht : List.take (out.length + 1) (strs (yB b s)) = strs (yB b s) := List.take_of_length_le (by rw [zj, ← q3]; simp)
 apply zq
 refine zr rfl Tryz.func191 rfl (by kernel_rfl) ?_
 unfold Tryz.f191
 simp (disch := ((try simp only [LL]); omega)) only [↓GO, ↓DRW, GA, GX, ren, zm, z8, refs, z7, cst, zo, isC, bin, una, z6, zc, blt, asArg, ze, zb, zf, z1, E.mkS, unN, zd, zn, za, GS, simprocAttr, GZ, q4, zj, xf, ho, ht]
theorem sw (s : Str) (P : T) (i : T) (p : Str) (hl : p.length ≤ 4294967296) : ∀ (rest pre : Str), p = pre ++ rest →
 EV Tryz.prog pol (.loop 158 59706 0 [.t (.str s), .t P, .t i, .t (.str p), .t (.int .i64 (pre.length : Int))] []) = some (cond (rest.all vX) (.loop (.exit 2) [.t (.str s), .bad, .t P, .t i, .t (.str p)] []) (.loop .ret [.t (.str s), .t (.bool false), .t P, .t i, .t (.str p)] []))
 | [], pre, hs => by
  have c : decide ((pre.length : Int) < (p.length : Int)) = false := by simp [hs]
  refine zh Tryz.func158 rfl rfl ?_
  simp only [↓GO, ↓DRW, GA, GX, ren, zm, z8, refs, z7, cst, zo, isC, bin, una, z6, zc, blt, asArg, ze, zb, zf, z1, E.mkS, unN, zd, zn, za, GS, simprocAttr, c]
 | b :: rest, pre, hs => by
  have c : decide ((pre.length : Int) < (p.length : Int)) = true := by simp [hs]; omega
  have hget : p[pre.length]? = some b := by rw [hs]; exact tH pre b rest
  have hlen : p.length = pre.length + rest.length + 1 := by rw [hs]; simp; omega
  have IH := sw s P i p hl rest (pre ++ [b]) (by rw [hs]; simp)
  rw [show ((pre ++ [b]).length : Int) = (pre.length : Int) + 1 by simp] at IH
  have hb := nc b
  clear hs
  refine zh Tryz.func158 rfl rfl ?_
  rw [List.all_cons, vX]
  simp only [nb] at *
  cases h1 : (B2 (b.toNat : Int) 97 122 || B2 (b.toNat : Int) 48 57) <;> rw [h1] at hb <;> cases h2 : ((b.toNat : Int) == 46) <;> cases h3 : ((b.toNat : Int) == 95) <;> cases h4 : ((b.toNat : Int) == 45) <;>
   simp (disch := ((try simp only [LL]); omega)) only [↓GO, ↓DRW, GA, GX, ren, zm, z8, refs, z7, cst, zo, isC, bin, una, z6, zc, blt, asArg, ze, zb, zf, z1, E.mkS, unN, zd, zn, za, GS, simprocAttr, GZ, c, hget, zi, hb, h2, h3, h4, bne, IH]
theorem ZE (s : Str) (parts : List Str) (hl : parts.length ≤ 4294967296) (hb : ∀ p ∈ parts, p.length ≤ 4294967296) : ∀ (rest pre : List Str), parts = pre ++ rest → pre ≠ [] →
 EV Tryz.prog pol (.loop 158 58 0 [.t (.str s), .t (.list 1 (strs parts)), .t (.int .i64 (pre.length : Int))] []) = some (cond (lR rest) (.loop (.exit 0) [.t (.str s), .bad] []) (.loop .ret [.t (.str s), .t (.bool false)] []))
 | [], pre, hs, _ => by
  have c : decide ((pre.length : Int) < (parts.length : Int)) = false := by simp [hs]
  refine zh Tryz.func158 rfl rfl ?_
  simp only [↓GO, ↓DRW, GA, GX, ren, zm, z8, refs, z7, cst, zo, isC, bin, una, z6, zc, blt, asArg, ze, zb, zf, z1, E.mkS, unN, zd, zn, za, GS, simprocAttr, zj, c, lR]
 | x :: rest, pre, hs, hn => by
  have c : decide ((pre.length : Int) < (parts.length : Int)) = true := by simp [hs]; omega
  have hget : (strs parts)[pre.length]? = some [.str x] := by rw [hs]; exact xJ pre x rest
  have hlen : pre.length + rest.length + 1 ≤ parts.length := by rw [hs]; simp; omega
  have hx : x.length ≤ 4294967296 := hb x (by rw [hs]; simp)
  have IH := ZE s parts hl hb rest (pre ++ [x]) (by rw [hs]; simp) (by simp)
  have hin := sw s (.list 1 (strs parts)) (.int .i64 (pre.length : Int)) x hx x [] rfl
  simp only [List.length_nil, Int.natCast_zero] at hin
  rw [show ((pre ++ [x]).length : Int) = (pre.length : Int) + 1 by simp] at IH
  have e0 : (((pre.length : Int) == 0)) = false := by
   rw [beq_eq_false_iff_ne]; intro h; apply hn; apply List.eq_nil_of_length_eq_zero; omega
  clear hs hb
  refine zh Tryz.func158 rfl rfl ?_
  rw [lR]
  have hN : (x == ry) = (x == [110, 111, 100, 101, 95, 109, 111, 100, 117, 108, 101, 115]) := rfl
  rw [hN]
  cases ha : x.all vX <;> rw [ha] at hin <;> simp only [cond_true, cond_false] at hin <;> cases h1 : (x == []) <;> cases h2 : (x == [110, 111, 100, 101, 95, 109, 111, 100, 117, 108, 101, 115]) <;>
   simp (disch := ((try simp only [LL]); omega)) only [↓GO, ↓DRW, GA, GX, ren, zm, z8, refs, z7, cst, zo, isC, bin, una, z6, zc, blt, asArg, ze, zb, zf, z1, E.mkS, unN, zd, zn, za, GS, simprocAttr, GZ, c, hget, zi, hin, h1, h2, e0, IH, zj]
theorem Rl (s : Str) (parts : List Str) (hl : parts.length ≤ 4294967296) (hb : ∀ p ∈ parts, p.length ≤ 4294967296) (x : Str) (rest : List Str) (hs : parts = x :: rest) :
 EV Tryz.prog pol (.loop 158 58 0 [.t (.str s), .t (.list 1 (strs parts)), .t (.int .i64 0)] []) = some (cond (qt (x :: rest)) (.loop (.exit 0) [.t (.str s), .bad] []) (.loop .ret [.t (.str s), .t (.bool false)] [])) := by
 have c : decide ((0 : Int) < (parts.length : Int)) = true := by simp only [decide_eq_true_eq, hs, List.length_cons]; omega
 have hget : (strs parts)[0]? = some [.str x] := by rw [hs]; rfl
 have hx : x.length ≤ 4294967296 := hb x (by rw [hs]; simp)
 have IH := ZE s parts hl hb rest [x] hs (by simp)
 simp only [List.length_nil, List.length_cons, Nat.zero_add, Int.natCast_one] at IH
 have hN : (x == ry) = (x == [110, 111, 100, 101, 95, 109, 111, 100, 117, 108, 101, 115]) := rfl
 rw [qt, hN]
 clear hs hb hN
 cases x with
 | nil =>
  have hin := sw s (.list 1 (strs parts)) (.int .i64 0) [] hx [] [] rfl
  simp only [List.length_nil, Int.natCast_zero, List.all_nil, cond_true] at hin
  have h2 : (([] : Str) == [110, 111, 100, 101, 95, 109, 111, 100, 117, 108, 101, 115]) = false := rfl
  have h3 : (([] : Str) == []) = true := rfl
  have h4 : yL [] = [] := rfl
  refine zh Tryz.func158 rfl rfl ?_
  simp (disch := ((try simp only [LL]); omega)) only [↓GO, ↓DRW, GA, GX, ren, zm, z8, refs, z7, cst, zo, isC, bin, una, z6, zc, blt, asArg, ze, zb, zf, z1, E.mkS, unN, zd, zn, za, GS, simprocAttr, GZ, c, hget, zi, hin, zj, h2, h3, h4, Int.natCast_zero]
 | cons y t =>
  have hlt : decide (((y :: t).length : Int) > 0) = true := by simp only [decide_eq_true_eq, List.length_cons]; omega
  have hg0 : (y :: t)[0]? = some y := rfl
  have hyl : 1 ≤ (y :: t).length := by simp
  by_cases h64 : y = 64
  · subst h64
    have hin2 := sw s (.list 1 (strs parts)) (.int .i64 0) t (by simp only [List.length_cons] at hx; omega) t [] rfl
    simp only [List.length_nil, Int.natCast_zero] at hin2
    have e1 : (((64 : UInt8) :: t) == [110, 111, 100, 101, 95, 109, 111, 100, 117, 108, 101, 115]) = false := by simp
    have e2 : yL (64 :: t) = t := by simp [yL]
    have e3 : (((64 : UInt8)).toNat : Int) = 64 := rfl
    have hd : List.drop 1 ((64 : UInt8) :: t) = t := rfl
    rw [e2]
    generalize hy : (64 : UInt8) :: t = yy at *
    cases ha : t.all vX <;> rw [ha] at hin2 <;> simp only [cond_true, cond_false] at hin2 <;> cases h1 : (t == []) <;>
     refine zh Tryz.func158 rfl rfl ?_ <;> simp (disch := ((try simp only [LL]); omega)) only [↓GO, ↓DRW, GA, GX, ren, zm, z8, refs, z7, cst, zo, isC, bin, una, z6, zc, blt, asArg, ze, zb, zf, z1, E.mkS, unN, zd, zn, za, GS, simprocAttr, GZ, c, hget, zi, hin2, zj, e1, e3, hlt, hg0, hd, h1, IH, Int.zero_add]
  · have e2 : yL (y :: t) = y :: t := by simp [yL, h64]
    have e3 : ((y.toNat : Int) == 64) = false := by
     rw [beq_eq_false_iff_ne]; intro h; exact h64 (UInt8.toNat_inj.1 (by rw [show (64 : UInt8).toNat = 64 from rfl]; omega))
    have hin := sw s (.list 1 (strs parts)) (.int .i64 0) (y :: t) hx (y :: t) [] rfl
    simp only [List.length_nil, Int.natCast_zero] at hin
    rw [e2]
    have h1 : ((y :: t) == []) = false := rfl
    generalize hy : y :: t = yy at *
    cases ha : yy.all vX <;> rw [ha] at hin <;> simp only [cond_true, cond_false] at hin <;> cases h2 : (yy == [110, 111, 100, 101, 95, 109, 111, 100, 117, 108, 101, 115]) <;>
     refine zh Tryz.func158 rfl rfl ?_ <;> simp (disch := ((try simp only [LL]); omega)) only [↓GO, ↓DRW, GA, GX, ren, zm, z8, refs, z7, cst, zo, isC, bin, una, z6, zc, blt, asArg, ze, zb, zf, z1, E.mkS, unN, zd, zn, za, GS, simprocAttr, GZ, c, hget, zi, hin, zj, e3, hlt, hg0, h1, h2, IH, Int.zero_add]
theorem RW (s : Str) (hl : s.length ≤ 1048576) : zk (EV Tryz.prog pol) 158 [.t (.str s)] = some (.t (.bool (sH s))) := by
 have hbk := wI 47 s
 have h3 := aM s 47 (by omega)
 rw [show (((47 : UInt8)).toNat : Int) = 47 from rfl] at h3
 rw [← Xe]
 cases hc : yB 47 s with
 | nil => exact absurd hc (rp 47 s)
 | cons x rest =>
  rw [hc] at h3 hbk
  have hb : ∀ p ∈ x :: rest, p.length ≤ 4294967296 := fun p hp => by have := wh hp; omega
  have LP := Rl s (x :: rest) (by omega) hb x rest rfl
  generalize x :: rest = parts at *
  apply zq
  refine zr rfl Tryz.func158 rfl (by kernel_rfl) ?_
  unfold Tryz.f158
  cases hp : qt parts <;> rw [hp] at LP <;> simp only [cond_true, cond_false] at LP <;>
   simp (disch := ((try simp only [LL]); omega)) only [↓GO, ↓DRW, GA, GX, ren, zm, z8, refs, z7, cst, zo, isC, bin, una, z6, zc, blt, asArg, ze, zb, zf, z1, E.mkS, unN, zd, zn, za, GS, simprocAttr, GZ, h3, LP]
theorem UA (b : UInt8) : zk (EV Tryz.prog pol) 235 [.t (.int .u8 (b.toNat : Int))] = some (.t (.bool (qq b))) := by
 apply zq
 refine zr rfl Tryz.func235 rfl (by kernel_rfl) ?_
 unfold Tryz.f235
 unfold qq B2
 simp only [nb]
 cases h1 : decide ((33 : Int) ≤ (b.toNat : Int)) <;> cases h2 : decide ((b.toNat : Int) ≤ 126) <;> cases h3 : ((b.toNat : Int) == 34) <;> cases h4 : ((b.toNat : Int) == 39) <;> cases h5 : ((b.toNat : Int) == 44) <;>
  simp (disch := ((try simp only [LL]); omega)) only [↓GO, ↓DRW, GA, GX, ren, zm, z8, refs, z7, cst, zo, isC, bin, una, z6, zc, blt, asArg, ze, zb, zf, z1, E.mkS, unN, zd, zn, za, GS, simprocAttr, GZ, h1, h2, h3, h4, h5, bne, ge_iff_le]
theorem Uz (s : Str) (hl : s.length ≤ 1048576) : zk (EV Tryz.prog pol) 156 [.t (.str s)] = some (.t (.bool (tu s))) := by
 have h := YO 235 qq UA s (by omega)
 apply zq
 refine zr rfl Tryz.func156 rfl (by kernel_rfl) ?_
 unfold Tryz.f156
 unfold tu
 cases h1 : decide ((s.length : Int) ≤ 100) <;> simp (disch := ((try simp only [LL]); omega)) only [↓GO, ↓DRW, GA, GX, ren, zm, z8, refs, z7, cst, zo, isC, bin, una, z6, zc, blt, asArg, ze, zb, zf, z1, E.mkS, unN, zd, zn, za, GS, simprocAttr, GZ, h, h1]
theorem eV (s : Str) (hl : s.length ≤ 1048576) : ∀ (rest pre : Str), s = pre ++ rest →
 EV Tryz.prog pol (.loop 159 26 0 [.t (.str s), .t (.int .i64 (pre.length : Int))] []) = some (cond (rest.all qq) (.loop (.exit 0) [.t (.str s), .bad] []) (.loop .ret [.t (.str s), .t (.bool false)] []))
 | [], pre, hs => by
  have c : decide ((pre.length : Int) < (s.length : Int)) = false := by simp [hs]
  refine zh Tryz.func159 rfl rfl ?_
  simp only [↓GO, ↓DRW, GA, GX, ren, zm, z8, refs, z7, cst, zo, isC, bin, una, z6, zc, blt, asArg, ze, zb, zf, z1, E.mkS, unN, zd, zn, za, GS, simprocAttr, c]
 | b :: rest, pre, hs => by
  have c : decide ((pre.length : Int) < (s.length : Int)) = true := by simp [hs]; omega
  have hget : s[pre.length]? = some b := by rw [hs]; exact tH pre b rest
  have hlen : s.length = pre.length + rest.length + 1 := by rw [hs]; simp; omega
  have IH := eV s hl rest (pre ++ [b]) (by rw [hs]; simp)
  rw [show ((pre ++ [b]).length : Int) = (pre.length : Int) + 1 by simp] at IH
  have hb := xZ (b.toNat : Int) 33 126
  clear hs
  refine zh Tryz.func159 rfl rfl ?_
  rw [List.all_cons, qq]
  simp only [nb]
  cases h1 : B2 (b.toNat : Int) 33 126 <;> rw [h1] at hb <;> cases h3 : ((b.toNat : Int) == 34) <;> cases h4 : ((b.toNat : Int) == 39) <;> cases h5 : ((b.toNat : Int) == 44) <;> cases h6 : ((b.toNat : Int) == 92) <;>
   simp (disch := ((try simp only [LL]); omega)) only [↓GO, ↓DRW, GA, GX, ren, zm, z8, refs, z7, cst, zo, isC, bin, una, z6, zc, blt, asArg, ze, zb, zf, z1, E.mkS, unN, zd, zn, za, GS, simprocAttr, GZ, c, hget, zi, conv, wrap_u8, hb, h3, h4, h5, h6, bne, IH]
theorem Uy (s : Str) (hl : s.length ≤ 1048576) : zk (EV Tryz.prog pol) 159 [.t (.str s)] = some (.t (.bool (tu s))) := by
 have IH := eV s hl s [] rfl
 simp only [List.length_nil, Int.natCast_zero] at IH
 apply zq
 refine zr rfl Tryz.func159 rfl (by kernel_rfl) ?_
 unfold Tryz.f159
 unfold tu
 cases ha : s.all qq <;> rw [ha] at IH <;> simp only [cond_true, cond_false] at IH
 · simp (disch := ((try simp only [LL]); omega)) only [↓GO, ↓DRW, GA, GX, ren, zm, z8, refs, z7, cst, zo, isC, bin, una, z6, zc, blt, asArg, ze, zb, zf, z1, E.mkS, unN, zd, zn, za, GS, simprocAttr, GZ, IH]
 · cases h1 : decide ((s.length : Int) ≤ 100) with
   | false => simp (disch := ((try simp only [LL]); omega)) only [↓GO, ↓DRW, GA, GX, ren, zm, z8, refs, z7, cst, zo, isC, bin, una, z6, zc, blt, asArg, ze, zb, zf, z1, E.mkS, unN, zd, zn, za, GS, simprocAttr, GZ, IH, h1]
   | true =>
    have h2 := of_decide_eq_true h1
    have h3 : decide ((s.length : Int) < 20000) = true := by simp only [decide_eq_true_eq]; omega
    simp (disch := ((try simp only [LL]); omega)) only [↓GO, ↓DRW, GA, GX, ren, zm, z8, refs, z7, cst, zo, isC, bin, una, z6, zc, blt, asArg, ze, zb, zf, z1, E.mkS, unN, zd, zn, za, GS, simprocAttr, GZ, IH, h1, h3]
end Go.Proofs.YtijninlbpifonaaGreatDoor
/- Versions, by both. Conditions: those of each lemma. -/
namespace Go.Proofs.YtijninlbpifonaaGreatDoor
open E
set_option linter.unusedSimpArgs false
set_option linter.unusedVariables false
set_option maxRecDepth 100000
theorem Qu (n : Int) : B2 n 0 999999999 = n9 n := rfl
/-- a version of bounded size -/
def Ver.sm (v : Ver) : Prop := v.pre.length + ya v.pre ≤ 2097152
theorem rq {α : Type} [BEq α] (l : List α) : ((l.length : Int) == 0) = (l == []) := by
 cases l with
 | nil => rfl
 | cons x l =>
  have h1 : ((x :: l) == []) = false := rfl
  have h2 : (((x :: l).length : Int) == 0) = false := by rw [beq_eq_false_iff_ne]; simp only [List.length_cons]; omega
  rw [h1, h2]
theorem aE {α : Type} [BEq α] (l : List α) : decide ((l.length : Int) > 0) = !(l == []) := by
 cases l with
 | nil => rfl
 | cons x l =>
  have h1 : ((x :: l) == []) = false := rfl
  have h2 : decide (((x :: l).length : Int) > 0) = true := by simp only [decide_eq_true_eq, List.length_cons]; omega
  rw [h1, h2]; rfl
theorem S2 (b : UInt8) : B2 (b.toNat : Int) 48 57 = isD b := aD b
theorem b8 (a : Int) : zk (EV Tryz.prog pol) 301 [.t (.int .u8 a)] = some (.t (.bool (B2 a 97 122 || B2 a 65 90))) := by
 have h1 := jL a
 apply zq
 refine zr rfl Tryz.func301 rfl (by kernel_rfl) ?_
 unfold Tryz.f301
 cases h2 : B2 a 97 122 <;> rw [h2] at h1
 · unfold B2
   cases h3 : decide ((65 : Int) ≤ a) <;> simp (disch := ((try simp only [LL]); omega)) only [↓GO, ↓DRW, GA, GX, ren, zm, z8, refs, z7, cst, zo, isC, bin, una, z6, zc, blt, asArg, ze, zb, zf, z1, E.mkS, unN, zd, zn, za, GS, simprocAttr, GZ, h1, h3, ge_iff_le]
 · simp (disch := ((try simp only [LL]); omega)) only [↓GO, ↓DRW, GA, GX, ren, zm, z8, refs, z7, cst, zo, isC, bin, una, z6, zc, blt, asArg, ze, zb, zf, z1, E.mkS, unN, zd, zn, za, GS, simprocAttr, GZ, h1]
theorem Ph (b : UInt8) : zk (EV Tryz.prog pol) 300 [.t (.int .u8 (b.toNat : Int))] = some (.t (.bool (preB b))) := by
 have h1 := b8 (b.toNat : Int)
 have h2 := pY (b.toNat : Int)
 apply zq
 refine zr rfl Tryz.func300 rfl (by kernel_rfl) ?_
 unfold Tryz.f300
 unfold preB
 simp only [nb]
 cases h3 : B2 (b.toNat : Int) 97 122 <;> cases h4 : B2 (b.toNat : Int) 65 90 <;> cases h5 : B2 (b.toNat : Int) 48 57 <;> rw [h3, h4] at h1 <;> rw [h5] at h2 <;>
  simp (disch := ((try simp only [LL]); omega)) only [↓GO, ↓DRW, GA, GX, ren, zm, z8, refs, z7, cst, zo, isC, bin, una, z6, zc, blt, asArg, ze, zb, zf, z1, E.mkS, unN, zd, zn, za, GS, simprocAttr, GZ, h1, h2]
theorem Q0 (b : UInt8) : zk (EV Tryz.prog pol) 234 [.t (.int .u8 (b.toNat : Int))] = some (.t (.bool (isD b))) := by
 rw [pY, S2]
theorem gj (s : Str) (hl : s.length ≤ 9223372036854775807) : zk (EV Tryz.prog pol) 246 [.t (.str s)] = some (.t (.bool (isNum s))) := by
 have h := YO 234 isD Q0 s hl
 apply zq
 refine zr rfl Tryz.func246 rfl (by kernel_rfl) ?_
 unfold Tryz.f246
 unfold isNum
 cases h1 : (s == []) <;> simp (disch := ((try simp only [LL]); omega)) only [↓GO, ↓DRW, GA, GX, ren, zm, z8, refs, z7, cst, zo, isC, bin, una, z6, zc, blt, asArg, ze, zb, zf, z1, E.mkS, unN, zd, zn, za, GS, simprocAttr, GZ, h, h1, bne]
theorem Rk (x1 x2 x3 x4 : T) (a b c : Int) :
 EV Tryz.prog pol (.loop 244 26 0 [.ptr 0 0 0, .sl 1 0 3 (some 3), .t (.int .i64 3), .t (.int .i64 0)] [.vs 4 [[.t x1, .t x2, .t x3, .t x4]], .ts 1 [[.int .i64 a], [.int .i64 b], [.int .i64 c]]])
 = some (cond (n9 a && (n9 b && n9 c)) (.loop (.exit 0) [.ptr 0 0 0, .bad] [.vs 4 [[.t x1, .t x2, .t x3, .t x4]]]) (.loop .ret [.ptr 0 0 0, .t (.bool false)] [.vs 4 [[.t x1, .t x2, .t x3, .t x4]]])) := by
 have ha := sD a 0 999999999
 have hb := sD b 0 999999999
 have hc := sD c 0 999999999
 rw [Qu] at ha hb hc
 cases h1 : n9 a <;> rw [h1] at ha
 · refine zh Tryz.func244 rfl rfl ?_
   simp (disch := ((try simp only [LL]); omega)) only [↓GO, ↓DRW, GA, GX, ren, zm, z8, refs, z7, cst, zo, isC, bin, una, z6, zc, blt, asArg, ze, zb, zf, z1, E.mkS, unN, zd, zn, za, GS, simprocAttr, GZ, ha, zi, zD, Int.cast_ofNat_Int]
 · refine zh Tryz.func244 rfl rfl ?_
   simp (disch := ((try simp only [LL]); omega)) only [↓GO, ↓DRW, GA, GX, ren, zm, z8, refs, z7, cst, zo, isC, bin, una, z6, zc, blt, asArg, ze, zb, zf, z1, E.mkS, unN, zd, zn, za, GS, simprocAttr, GZ, ha, zi, zD, Int.cast_ofNat_Int]
   cases h2 : n9 b <;> rw [h2] at hb
   · refine zh Tryz.func244 rfl rfl ?_
     simp (disch := ((try simp only [LL]); omega)) only [↓GO, ↓DRW, GA, GX, ren, zm, z8, refs, z7, cst, zo, isC, bin, una, z6, zc, blt, asArg, ze, zb, zf, z1, E.mkS, unN, zd, zn, za, GS, simprocAttr, GZ, hb, zi, Int.zero_add, zD, Int.cast_ofNat_Int, Int.reduceAdd]
   · refine zh Tryz.func244 rfl rfl ?_
     simp (disch := ((try simp only [LL]); omega)) only [↓GO, ↓DRW, GA, GX, ren, zm, z8, refs, z7, cst, zo, isC, bin, una, z6, zc, blt, asArg, ze, zb, zf, z1, E.mkS, unN, zd, zn, za, GS, simprocAttr, GZ, hb, zi, Int.zero_add, zD, Int.cast_ofNat_Int, Int.reduceAdd]
     cases h3 : n9 c <;> rw [h3] at hc
     · refine zh Tryz.func244 rfl rfl ?_
       simp (disch := ((try simp only [LL]); omega)) only [↓GO, ↓DRW, GA, GX, ren, zm, z8, refs, z7, cst, zo, isC, bin, una, z6, zc, blt, asArg, ze, zb, zf, z1, E.mkS, unN, zd, zn, za, GS, simprocAttr, GZ, hc, zi, Int.zero_add, zD, Int.cast_ofNat_Int, Int.reduceAdd]
     · refine zh Tryz.func244 rfl rfl ?_
       simp (disch := ((try simp only [LL]); omega)) only [↓GO, ↓DRW, GA, GX, ren, zm, z8, refs, z7, cst, zo, isC, bin, una, z6, zc, blt, asArg, ze, zb, zf, z1, E.mkS, unN, zd, zn, za, GS, simprocAttr, GZ, hc, zi, Int.zero_add, zD, Int.cast_ofNat_Int, Int.reduceAdd]
       refine zh Tryz.func244 rfl rfl ?_
       simp (disch := ((try simp only [LL]); omega)) only [↓GO, ↓DRW, GA, GX, ren, zm, z8, refs, z7, cst, zo, isC, bin, una, z6, zc, blt, asArg, ze, zb, zf, z1, E.mkS, unN, zd, zn, za, GS, simprocAttr, GZ, zi, Int.zero_add, zD, Int.cast_ofNat_Int, Int.reduceAdd]
theorem ZA (v : Ver) (hs : v.sm) : ∀ (rest pre : List Str), v.pre = pre ++ rest →
 EV Tryz.prog pol (.loop 244 58 0 [.ptr 0 0 0, .t (.list 1 (strs v.pre)), .t (.int .i64 (v.pre.length : Int)), .t (.int .i64 (pre.length : Int))] [.vs 4 [v.enc.map .t]])
 = some (cond (rest.all wL) (.loop (.exit 2) [.ptr 0 0 0, .bad] [.vs 4 [v.enc.map .t]]) (.loop .ret [.ptr 0 0 0, .t (.bool false)] [.vs 4 [v.enc.map .t]]))
 | [], pre, hp => by
  have c : decide ((pre.length : Int) < (v.pre.length : Int)) = false := by simp [hp]
  refine zh Tryz.func244 rfl rfl ?_
  simp only [↓GO, ↓DRW, GA, GX, ren, zm, z8, refs, z7, cst, zo, isC, bin, una, z6, zc, blt, asArg, ze, zb, zf, z1, E.mkS, unN, zd, zn, za, GS, simprocAttr, c, Ver.enc]
 | x :: rest, pre, hp => by
  unfold Ver.sm at hs
  have c : decide ((pre.length : Int) < (v.pre.length : Int)) = true := by simp [hp]; omega
  have hget : (strs v.pre)[pre.length]? = some [.str x] := by rw [hp]; exact xJ pre x rest
  have hlen : pre.length + rest.length + 1 ≤ v.pre.length := by rw [hp]; simp; omega
  have hx : x.length ≤ 2097152 := by have := wh (ks := v.pre) (s := x) (by rw [hp]; simp); omega
  have IH := ZA v hs rest (pre ++ [x]) (by rw [hp]; simp)
  rw [show ((pre ++ [x]).length : Int) = (pre.length : Int) + 1 by simp] at IH
  have h1 := sD (x.length : Int) 1 20
  have h2 := YO 300 preB Ph x (by omega)
  have h3 := gj x (by omega)
  have h4 := YN x (by omega)
  clear hp
  simp only [Ver.enc, List.map_cons, List.map_nil] at IH ⊢
  rw [List.all_cons, wL]
  have e4 : decide (zH x < 0) = !decide (0 ≤ zH x) := by
   rcases Int.lt_or_le (zH x) 0 with h | h
   · have a : ¬ (0 ≤ zH x) := by omega
     simp [h, a]
   · have a : ¬ (zH x < 0) := by omega
     simp [h, a]
  generalize B2 (x.length : Int) 1 20 = b1 at *
  generalize x.all preB = b2 at *
  generalize isNum x = b3 at *
  generalize zH x = rd at *
  generalize decide (0 ≤ rd) = b4 at *
  cases b1 <;> cases b2 <;> cases b3 <;> cases b4 <;> refine zh Tryz.func244 rfl rfl ?_ <;>
   simp (disch := ((try simp only [LL]); omega)) only [↓GO, ↓DRW, GA, GX, ren, zm, z8, refs, z7, cst, zo, isC, bin, una, z6, zc, blt, asArg, ze, zb, zf, z1, E.mkS, unN, zd, zn, za, GS, simprocAttr, GZ, c, hget, zi, h1, h2, h3, h4, e4, zj, IH, zD]
theorem Pe (v : Ver) (hs : v.sm) : zk (EV Tryz.prog pol) 244 [.agg (v.enc.map .t)] = some (.t (.bool (yA v))) := by
 have h1 := Rk (.int .i64 v.maj) (.int .i64 v.min) (.int .i64 v.pat) (.list 1 (strs v.pre)) v.maj v.min v.pat
 have h2 := ZA v hs v.pre [] rfl
 unfold Ver.sm at hs
 simp only [List.length_nil, Int.natCast_zero] at h2
 simp only [Ver.enc, List.map_cons, List.map_nil] at h1 h2 ⊢
 unfold yA
 generalize (n9 v.maj && (n9 v.min && n9 v.pat)) = b1 at *
 generalize v.pre.all wL = b2 at *
 apply zq
 refine zr rfl Tryz.func244 rfl (by kernel_rfl) ?_
 unfold Tryz.f244
 cases b1 <;> cases b2 <;> simp only [cond_true, cond_false] at h1 h2 <;>
  simp (disch := ((try simp only [LL]); omega)) only [↓GO, ↓DRW, GA, GX, ren, zm, z8, refs, z7, cst, zo, isC, bin, una, z6, zc, blt, asArg, ze, zb, zf, z1, E.mkS, unN, zd, zn, za, GS, simprocAttr, GZ, h1, h2, zj, zD, Int.cast_ofNat_Int]
theorem Q1 (b : UInt8) : zk (EV Tryz.prog pol) 352 [.t (.int .u8 (b.toNat : Int))] = some (.t (.bool (B2 (b.toNat : Int) 65 90))) := by
 have h := xZ (b.toNat : Int) 65 90
 apply zq
 refine zr rfl Tryz.func352 rfl (by kernel_rfl) ?_
 unfold Tryz.f352
 simp (disch := ((try simp only [LL]); omega)) only [↓GO, ↓DRW, GA, GX, ren, zm, z8, refs, z7, cst, zo, isC, bin, una, z6, zc, blt, asArg, ze, zb, zf, z1, E.mkS, unN, zd, zn, za, GS, simprocAttr, GZ, h, conv, wrap_u8]
theorem TX (s : Str) (hl : s.length ≤ 2097152) : ∀ (rest pre : Str), s = pre ++ rest →
 EV Tryz.prog pol (.loop 353 26 0 [.t (.str s), .t (.int .i64 (pre.length : Int))] []) = some (cond (rest.all isD) (.loop (.exit 0) [.t (.str s), .bad] []) (.loop .ret [.t (.str s), .t (.bool false)] []))
 | [], pre, hs => by
  have c : decide ((pre.length : Int) < (s.length : Int)) = false := by simp [hs]
  refine zh Tryz.func353 rfl rfl ?_
  simp only [↓GO, ↓DRW, GA, GX, ren, zm, z8, refs, z7, cst, zo, isC, bin, una, z6, zc, blt, asArg, ze, zb, zf, z1, E.mkS, unN, zd, zn, za, GS, simprocAttr, c]
 | b :: rest, pre, hs => by
  have c : decide ((pre.length : Int) < (s.length : Int)) = true := by simp [hs]; omega
  have hget : s[pre.length]? = some b := by rw [hs]; exact tH pre b rest
  have hlen : s.length = pre.length + rest.length + 1 := by rw [hs]; simp; omega
  have IH := TX s hl rest (pre ++ [b]) (by rw [hs]; simp)
  rw [show ((pre ++ [b]).length : Int) = (pre.length : Int) + 1 by simp] at IH
  have hb := xZ (b.toNat : Int) 48 57
  rw [S2] at hb
  clear hs
  refine zh Tryz.func353 rfl rfl ?_
  cases h1 : isD b <;> rw [h1] at hb <;>
   simp (disch := ((try simp only [LL]); omega)) only [↓GO, ↓DRW, GA, GX, ren, zm, z8, refs, z7, cst, zo, isC, bin, una, z6, zc, blt, asArg, ze, zb, zf, z1, E.mkS, unN, zd, zn, za, GS, simprocAttr, GZ, c, hget, zi, conv, wrap_u8, hb, h1, IH]
theorem Pp (s : Str) (hl : s.length ≤ 2097152) : zk (EV Tryz.prog pol) 353 [.t (.str s)] = some (.t (.bool (isNum s))) := by
 have IH := TX s hl s [] rfl
 simp only [List.length_nil, Int.natCast_zero] at IH
 apply zq
 refine zr rfl Tryz.func353 rfl (by kernel_rfl) ?_
 unfold Tryz.f353
 unfold isNum
 cases h1 : s.all isD <;> rw [h1] at IH <;> simp only [cond_true, cond_false] at IH <;>
  simp (disch := ((try simp only [LL]); omega)) only [↓GO, ↓DRW, GA, GX, ren, zm, z8, refs, z7, cst, zo, isC, bin, una, z6, zc, blt, asArg, ze, zb, zf, z1, E.mkS, unN, zd, zn, za, GS, simprocAttr, GZ, IH, bne]
theorem TT (s : Str) (hl : s.length ≤ 2097152) : ∀ (rest pre : Str), s = pre ++ rest →
 EV Tryz.prog pol (.loop 311 26 0 [.t (.str s), .t (.int .i64 (pre.length : Int))] []) = some (cond (rest.all preB) (.loop (.exit 0) [.t (.str s), .bad] []) (.loop .ret [.t (.str s), .t (.bool false)] []))
 | [], pre, hs => by
  have c : decide ((pre.length : Int) < (s.length : Int)) = false := by simp [hs]
  refine zh Tryz.func311 rfl rfl ?_
  simp only [↓GO, ↓DRW, GA, GX, ren, zm, z8, refs, z7, cst, zo, isC, bin, una, z6, zc, blt, asArg, ze, zb, zf, z1, E.mkS, unN, zd, zn, za, GS, simprocAttr, c]
 | b :: rest, pre, hs => by
  have c : decide ((pre.length : Int) < (s.length : Int)) = true := by simp [hs]; omega
  have hget : s[pre.length]? = some b := by rw [hs]; exact tH pre b rest
  have hlen : s.length = pre.length + rest.length + 1 := by rw [hs]; simp; omega
  have IH := TT s hl rest (pre ++ [b]) (by rw [hs]; simp)
  rw [show ((pre ++ [b]).length : Int) = (pre.length : Int) + 1 by simp] at IH
  have hb := nc b
  have hg := Q1 b
  clear hs
  refine zh Tryz.func311 rfl rfl ?_
  rw [List.all_cons, preB]
  simp only [nb] at *
  cases h1 : (B2 (b.toNat : Int) 97 122 || B2 (b.toNat : Int) 48 57) <;> rw [h1] at hb <;> cases h2 : B2 (b.toNat : Int) 65 90 <;> rw [h2] at hg <;> cases h3 : ((b.toNat : Int) == 45) <;>
   simp (disch := ((try simp only [LL]); omega)) only [↓GO, ↓DRW, GA, GX, ren, zm, z8, refs, z7, cst, zo, isC, bin, una, z6, zc, blt, asArg, ze, zb, zf, z1, E.mkS, unN, zd, zn, za, GS, simprocAttr, GZ, c, hget, zi, hb, hg, h3, bne, IH]
theorem Pg (s : Str) (hl : s.length ≤ 2097152) : zk (EV Tryz.prog pol) 311 [.t (.str s)] = some (.t (.bool (wL s))) := by
 have IH := TT s hl s [] rfl
 simp only [List.length_nil, Int.natCast_zero] at IH
 have h1 := xZ (s.length : Int) 1 20
 have h3 := Pp s hl
 have h4 := iI s (by omega)
 apply zq
 refine zr rfl Tryz.func311 rfl (by kernel_rfl) ?_
 unfold Tryz.f311
 unfold wL
 generalize B2 (s.length : Int) 1 20 = b1 at *
 generalize isNum s = b3 at *
 generalize zH s = rd at *
 cases ha : s.all preB <;> rw [ha] at IH <;> simp only [cond_true, cond_false] at IH <;> cases b1 <;> cases b3 <;>
  simp (disch := ((try simp only [LL]); omega)) only [↓GO, ↓DRW, GA, GX, ren, zm, z8, refs, z7, cst, zo, isC, bin, una, z6, zc, blt, asArg, ze, zb, zf, z1, E.mkS, unN, zd, zn, za, GS, simprocAttr, GZ, IH, h1, h3, h4, ge_iff_le]
theorem TQ (v : Ver) (hs : v.sm) : ∀ (rest pre : List Str), v.pre = pre ++ rest →
 EV Tryz.prog pol (.loop 257 26 0 [.ptr 0 0 0, .t (.int .i64 (pre.length : Int))] [.vs 4 [v.enc.map .t]])
 = some (cond (rest.all wL) (.loop (.exit 0) [.ptr 0 0 0, .bad] [.vs 4 [v.enc.map .t]]) (.loop .ret [.ptr 0 0 0, .t (.bool false)] [.vs 4 [v.enc.map .t]]))
 | [], pre, hp => by
  have c : decide ((pre.length : Int) < (v.pre.length : Int)) = false := by simp [hp]
  refine zh Tryz.func257 rfl rfl ?_
  simp only [↓GO, ↓DRW, GA, GX, ren, zm, z8, refs, z7, cst, zo, isC, bin, una, z6, zc, blt, asArg, ze, zb, zf, z1, E.mkS, unN, zd, zn, za, GS, simprocAttr, zj, c, Ver.enc]
 | x :: rest, pre, hp => by
  unfold Ver.sm at hs
  have c : decide ((pre.length : Int) < (v.pre.length : Int)) = true := by simp [hp]; omega
  have hget : (strs v.pre)[pre.length]? = some [.str x] := by rw [hp]; exact xJ pre x rest
  have hlen : pre.length + rest.length + 1 ≤ v.pre.length := by rw [hp]; simp; omega
  have hx : x.length ≤ 2097152 := by have := wh (ks := v.pre) (s := x) (by rw [hp]; simp); omega
  have IH := TQ v hs rest (pre ++ [x]) (by rw [hp]; simp)
  rw [show ((pre ++ [x]).length : Int) = (pre.length : Int) + 1 by simp] at IH
  have h1 := Pg x hx
  clear hp
  simp only [Ver.enc, List.map_cons, List.map_nil] at IH ⊢
  cases h2 : wL x <;> rw [h2] at h1 <;> refine zh Tryz.func257 rfl rfl ?_ <;>
   simp (disch := ((try simp only [LL]); omega)) only [↓GO, ↓DRW, GA, GX, ren, zm, z8, refs, z7, cst, zo, isC, bin, una, z6, zc, blt, asArg, ze, zb, zf, z1, E.mkS, unN, zd, zn, za, GS, simprocAttr, GZ, c, hget, zi, h1, h2, zj, IH, zD]
theorem aL (v : Ver) (hs : v.sm) : zk (EV Tryz.prog pol) 257 [.agg (v.enc.map .t)] = some (.t (.bool (yA v))) := by
 have h2 := TQ v hs v.pre [] rfl
 have ha := xZ v.maj 0 999999999
 have hb := xZ v.min 0 999999999
 have hc := xZ v.pat 0 999999999
 rw [Qu] at ha hb hc
 unfold Ver.sm at hs
 simp only [List.length_nil, Int.natCast_zero] at h2
 simp only [Ver.enc, List.map_cons, List.map_nil] at h2 ⊢
 unfold yA
 generalize n9 v.maj = b1 at *
 generalize n9 v.min = b3 at *
 generalize n9 v.pat = b4 at *
 generalize v.pre.all wL = b2 at *
 apply zq
 refine zr rfl Tryz.func257 rfl (by kernel_rfl) ?_
 unfold Tryz.f257
 cases b2 <;> simp only [cond_true, cond_false] at h2 <;> cases b1 <;> cases b3 <;> cases b4 <;>
  simp (disch := ((try simp only [LL]); omega)) only [↓GO, ↓DRW, GA, GX, ren, zm, z8, refs, z7, cst, zo, isC, bin, una, z6, zc, blt, asArg, ze, zb, zf, z1, E.mkS, unN, zd, zn, za, GS, simprocAttr, GZ, h2, ha, hb, hc, zj, zD]
end Go.Proofs.YtijninlbpifonaaGreatDoor
/- Digits and quotes, by both. Conditions: those of each lemma. -/
namespace Go.Proofs.YtijninlbpifonaaGreatDoor
open E
set_option linter.unusedSimpArgs false
set_option linter.unusedVariables false
set_option maxRecDepth 100000
end Go.Proofs.YtijninlbpifonaaGreatDoor
/- The text of a version, and back, by both. Conditions: those of each lemma. -/
namespace Go.Proofs.YtijninlbpifonaaGreatDoor
open E
set_option linter.unusedSimpArgs false
set_option linter.unusedVariables false
set_option maxRecDepth 100000
theorem cF (c : Str) (x : Str) : ∀ pre : List Str, wv c (pre ++ [x]) = cond (pre == []) ((c ++ [45]) ++ x) ((wv c pre ++ [46]) ++ x)
 | [] => by simp [wv, Lib.join_one]
 | y :: l => by
  unfold wv
  rw [mr]
  simp
theorem YT (c : Str) (l : List Str) : (wv c l).length ≤ c.length + ya l + l.length + 1 := by
 have h := join_le [46] l
 unfold wv
 cases l with
 | nil => simp only [show (([] : List Str) == []) = true from rfl, cond_true]; omega
 | cons x r =>
  simp only [beq_nil_cons, cond_false, List.length_append, List.length_cons, List.length_nil] at h ⊢
  omega
theorem Uq {v : Ver} (h : yA v = true) : (rB v).length ≤ 29 := by
 obtain ⟨h1, h2, h3, _, _⟩ := vr h
 have a := we v.maj h1.1 h1.2
 have b := we v.min h2.1 h2.2
 have c := we v.pat h3.1 h3.2
 unfold rB
 simp only [List.length_append, List.length_cons, List.length_nil]
 omega
theorem qX (v : Ver) (hs : v.sm) : zk (EV Tryz.prog pol) 164 [.agg (v.enc.map .t)] = some (.t (.str (yd v))) := by
 have h1 := Pe v hs
 unfold Ver.sm at hs
 unfold yd
 cases ho : yA v with
 | false =>
  rw [ho] at h1
  simp only [Ver.enc, List.map_cons, List.map_nil] at h1 ⊢
  apply zq
  refine zr rfl Tryz.func164 rfl (by kernel_rfl) ?_
  unfold Tryz.f164
  simp (disch := ((try simp only [LL]); omega)) only [↓GO, ↓DRW, GA, GX, ren, zm, z8, refs, z7, cst, zo, isC, bin, una, z6, zc, blt, asArg, ze, zb, zf, z1, E.mkS, unN, zd, zn, za, GS, simprocAttr, GZ, h1]
 | true =>
  obtain ⟨q1, q2, q3, _, _⟩ := vr ho
  have a := we v.maj q1.1 q1.2
  have b := we v.min q2.1 q2.2
  have c := we v.pat q3.1 q3.2
  have d1 := gD v.maj q1.1 q1.2
  have d2 := gD v.min q2.1 q2.2
  have d3 := gD v.pat q3.1 q3.2
  have hj := join_le [46] v.pre
  simp only [List.length_cons, List.length_nil] at hj
  have h2 := Pl v.pre [46] (by omega) (by omega)
  have hg := aE v.pre
  rw [ho] at h1
  unfold wv rB
  simp only [Ver.enc, List.map_cons, List.map_nil] at h1 ⊢
  cases hp : (v.pre == []) <;> rw [hp] at hg <;> simp only [Bool.not_true, Bool.not_false] at hg
  · apply zq
    refine zr rfl Tryz.func164 rfl (by kernel_rfl) ?_
    unfold Tryz.f164
    simp (disch := ((try simp only [LL]); omega)) only [↓GO, ↓DRW, GA, GX, ren, zm, z8, refs, z7, cst, zo, isC, bin, una, z6, zc, blt, asArg, ze, zb, zf, z1, E.mkS, unN, zd, zn, za, GS, simprocAttr, GZ, h1, d1, d2, d3, h2, hg, xf, zj, List.append_assoc]
  · apply zq
    refine zr rfl Tryz.func164 rfl (by kernel_rfl) ?_
    unfold Tryz.f164
    simp (disch := ((try simp only [LL]); omega)) only [↓GO, ↓DRW, GA, GX, ren, zm, z8, refs, z7, cst, zo, isC, bin, una, z6, zc, blt, asArg, ze, zb, zf, z1, E.mkS, unN, zd, zn, za, GS, simprocAttr, GZ, h1, d1, d2, d3, h2, hg, xf, zj, List.append_assoc]
theorem Qv (v : Ver) (hs : v.sm) (c : Str) (hc : c.length ≤ 40) : ∀ (rest pre : List Str), v.pre = pre ++ rest →
 EV Tryz.prog pol (.loop 193 122 0 [.ptr 0 0 0, .t (.str (wv c pre)), .t (.int .i64 (pre.length : Int))] [.vs 4 [v.enc.map .t]])
 = some (.loop (.exit 0) [.t (.str (wv c v.pre))] [])
 | [], pre, hp => by
  have c : decide ((pre.length : Int) < (v.pre.length : Int)) = false := by simp [hp]
  have e : v.pre = pre := by simpa using hp
  refine zh Tryz.func193 rfl rfl ?_
  simp only [↓GO, ↓DRW, GA, GX, ren, zm, z8, refs, z7, cst, zo, isC, bin, una, z6, zc, blt, asArg, ze, zb, zf, z1, E.mkS, unN, zd, zn, za, GS, simprocAttr, zj, c, Ver.enc, zD]
  rw [e]
 | x :: rest, pre, hp => by
  unfold Ver.sm at hs
  have c2 : decide ((pre.length : Int) < (v.pre.length : Int)) = true := by simp [hp]; omega
  have hget : (strs v.pre)[pre.length]? = some [.str x] := by rw [hp]; exact xJ pre x rest
  have hlen : pre.length + rest.length + 1 ≤ v.pre.length := by rw [hp]; simp; omega
  have hbk : ya pre + x.length ≤ ya v.pre := by rw [hp, lA]; simp only [ya]; omega
  have ht := YT c pre
  have IH := Qv v hs c hc rest (pre ++ [x]) (by rw [hp]; simp)
  rw [show ((pre ++ [x]).length : Int) = (pre.length : Int) + 1 by simp, cF] at IH
  have he := rq pre
  have e0 : (pre == []) = true → wv c pre = c := fun h => by unfold wv; rw [h]; rfl
  clear hp
  simp only [Ver.enc, List.map_cons, List.map_nil] at IH ⊢
  cases h0 : (pre == []) <;> rw [h0] at he IH <;> simp only [cond_true, cond_false] at IH
  · refine zh Tryz.func193 rfl rfl ?_
    simp (disch := ((try simp only [LL]); omega)) only [↓GO, ↓DRW, GA, GX, ren, zm, z8, refs, z7, cst, zo, isC, bin, una, z6, zc, blt, asArg, ze, zb, zf, z1, E.mkS, unN, zd, zn, za, GS, simprocAttr, GZ, c2, hget, zi, he, zj, IH, zD, xf]
  · have e1 := e0 h0
    rw [e1]
    refine zh Tryz.func193 rfl rfl ?_
    simp (disch := ((try simp only [LL]); omega)) only [↓GO, ↓DRW, GA, GX, ren, zm, z8, refs, z7, cst, zo, isC, bin, una, z6, zc, blt, asArg, ze, zb, zf, z1, E.mkS, unN, zd, zn, za, GS, simprocAttr, GZ, c2, hget, zi, he, zj, IH, zD, xf]
theorem dW (v : Ver) (hs : v.sm) : zk (EV Tryz.prog pol) 193 [.agg (v.enc.map .t)] = some (.t (.str (yd v))) := by
 have h1 := aL v hs
 unfold yd
 cases ho : yA v with
 | false =>
  rw [ho] at h1
  simp only [Ver.enc, List.map_cons, List.map_nil] at h1 ⊢
  apply zq
  refine zr rfl Tryz.func193 rfl (by kernel_rfl) ?_
  unfold Tryz.f193
  simp (disch := ((try simp only [LL]); omega)) only [↓GO, ↓DRW, GA, GX, ren, zm, z8, refs, z7, cst, zo, isC, bin, una, z6, zc, blt, asArg, ze, zb, zf, z1, E.mkS, unN, zd, zn, za, GS, simprocAttr, GZ, h1]
 | true =>
  obtain ⟨q1, q2, q3, _, _⟩ := vr ho
  have a := we v.maj q1.1 q1.2
  have b := we v.min q2.1 q2.2
  have c := we v.pat q3.1 q3.2
  have d1 := gC v.maj q1.1 q1.2
  have d2 := gC v.min q2.1 q2.2
  have d3 := gC v.pat q3.1 q3.2
  have hc := Uq ho
  have h2 := Qv v hs (rB v) (by omega) v.pre [] rfl
  rw [ho] at h1
  rw [show wv (rB v) [] = rB v from rfl] at h2
  simp only [List.length_nil, Int.natCast_zero] at h2
  simp only [cond_true]
  generalize wv (rB v) v.pre = tt at *
  unfold rB at h2
  simp only [Ver.enc, List.map_cons, List.map_nil] at h1 h2 ⊢
  apply zq
  refine zr rfl Tryz.func193 rfl (by kernel_rfl) ?_
  unfold Tryz.f193
  simp (disch := ((try simp only [LL]); omega)) only [↓GO, ↓DRW, GA, GX, ren, zm, z8, refs, z7, cst, zo, isC, bin, una, z6, zc, blt, asArg, ze, zb, zf, z1, E.mkS, unN, zd, zn, za, GS, simprocAttr, GZ, h1, d1, d2, d3, h2, xf, zD]
theorem mq {s : Str} (h : (yB 46 (zW 45 s).1).length ≠ 3) : wN s = none := by
 unfold wN
 split
 · rename_i a b c he; rw [he] at h; exact absurd rfl h
 · rfl
theorem lf {s : Str} {v : Ver} (h : wN s = some v) (hl : s.length ≤ 1048700) : v.sm ∧ v.maj ≤ 999999999 ∧ -1 ≤ v.maj ∧ v.min ≤ 999999999 ∧ -1 ≤ v.min ∧ v.pat ≤ 999999999 ∧ -1 ≤ v.pat := by
 unfold wN at h
 split at h
 · rename_i a b c he
   cases h
   have h1 := s8 a
   have h2 := s8 b
   have h3 := s8 c
   refine ⟨?_, h1.2, h1.1, h2.2, h2.1, h3.2, h3.1⟩
   have := wI 46 (zW 45 s).2.1
   have h5 := (qV 45 s).2
   unfold Ver.sm
   cases (zW 45 s).2.2 with
   | true => simp only [cond_true]; omega
   | false => simp [ya]
 · cases h
theorem xG (s : Str) (hl : s.length ≤ 1048700) : (zE s).1.sm ∧ (zE s).1.maj ≤ 999999999 ∧ -1 ≤ (zE s).1.maj ∧ (zE s).1.min ≤ 999999999 ∧ -1 ≤ (zE s).1.min ∧ (zE s).1.pat ≤ 999999999 ∧ -1 ≤ (zE s).1.pat := by
 unfold zE
 cases hm : wN s with
 | none => simp [Ver.zero, Ver.sm, ya]
 | some v =>
  have := lf hm hl
  simp only
  cases (yd v == s) with
  | true => exact this
  | false => simp [Ver.zero, Ver.sm, ya]
def rvT (s : Str) : V := .tup [.agg ((zE s).1.enc.map .t), .t (.bool (zE s).2)]
theorem YM (s : Str) (hl : s.length ≤ 1048700) : zk (EV Tryz.prog pol) 71 [.t (.str s)] = some (rvT s) := by
 have h1 := c_cut s [45] (by omega)
 rw [dP] at h1
 have hl1 := qV 45 s
 have h2 := gi (zW 45 s).1 [46] (by omega) (by simp)
 have h3 := gi (zW 45 s).2.1 [46] (by omega) (by simp)
 rw [nX] at h2 h3
 unfold rvT zE
 by_cases hn : (yB 46 (zW 45 s).1).length = 3
 · obtain ⟨a, b, c, hp⟩ : ∃ a b c, yB 46 (zW 45 s).1 = [a, b, c] := by
    match hq : yB 46 (zW 45 s).1, hn with
    | [a, b, c], _ => exact ⟨a, b, c, rfl⟩
   have hm : wN s = some ⟨zH a, zH b, zH c, cond (zW 45 s).2.2 (yB 46 (zW 45 s).2.1) []⟩ := by unfold wN; rw [hp]
   have hne := eN hm
   have hsm := (lf hm hl).1
   have hbk := wI 46 (zW 45 s).1
   rw [hp] at h2 hbk
   simp only [ya] at hbk
   have d1 := YN a (by omega)
   have d2 := YN b (by omega)
   have d3 := YN c (by omega)
   have hv := qX _ hsm
   rw [hm]
   have hs0 : (s == []) = false := by rw [beq_eq_false_iff_ne]; exact hne
   simp only [Ver.enc, List.map_cons, List.map_nil, vu, y9] at hv h2 ⊢
   generalize zH a = ra at *
   generalize zH b = rb at *
   generalize zH c = rc at *
   cases hh : (zW 45 s).2.2 <;> rw [hh] at h1 hv <;> simp only [cond_true, cond_false, y9] at hv ⊢
   · generalize yd ⟨ra, rb, rc, []⟩ = tt at *
     clear hm hsm
     cases he : (tt == s)
     · apply zq
       refine zr rfl Tryz.func71 rfl (by kernel_rfl) ?_
       unfold Tryz.f71
       simp (disch := ((try simp only [LL]); omega)) only [↓GO, ↓DRW, GA, GX, ren, zm, z8, refs, z7, cst, zo, isC, bin, una, z6, zc, blt, asArg, ze, zb, zf, z1, E.mkS, unN, zd, zn, za, GS, simprocAttr, GZ, h1, h2, d1, d2, d3, hv, he, bne, hs0, Ver.zero, y9]
       refine yJ (by kernel_rfl) ?_
       simp (disch := ((try simp only [LL]); omega)) only [↓GO, ↓DRW, GA, GX, ren, zm, z8, refs, z7, cst, zo, isC, bin, una, z6, zc, blt, asArg, ze, zb, zf, z1, E.mkS, unN, zd, zn, za, GS, simprocAttr, GZ, h1, h2, d1, d2, d3, hv, he, bne, hs0, Ver.zero, y9]
     · apply zq
       refine zr rfl Tryz.func71 rfl (by kernel_rfl) ?_
       unfold Tryz.f71
       simp (disch := ((try simp only [LL]); omega)) only [↓GO, ↓DRW, GA, GX, ren, zm, z8, refs, z7, cst, zo, isC, bin, una, z6, zc, blt, asArg, ze, zb, zf, z1, E.mkS, unN, zd, zn, za, GS, simprocAttr, GZ, h1, h2, d1, d2, d3, hv, he, bne, hs0, y9]
       refine yJ (by kernel_rfl) ?_
       simp (disch := ((try simp only [LL]); omega)) only [↓GO, ↓DRW, GA, GX, ren, zm, z8, refs, z7, cst, zo, isC, bin, una, z6, zc, blt, asArg, ze, zb, zf, z1, E.mkS, unN, zd, zn, za, GS, simprocAttr, GZ, h1, h2, d1, d2, d3, hv, he, bne, hs0, y9]
   · generalize yd ⟨ra, rb, rc, yB 46 (zW 45 s).2.1⟩ = tt at *
     clear hm hsm
     generalize yB 46 (zW 45 s).2.1 = pp at *
     cases he : (tt == s)
     · apply zq
       refine zr rfl Tryz.func71 rfl (by kernel_rfl) ?_
       unfold Tryz.f71
       simp (disch := ((try simp only [LL]); omega)) only [↓GO, ↓DRW, GA, GX, ren, zm, z8, refs, z7, cst, zo, isC, bin, una, z6, zc, blt, asArg, ze, zb, zf, z1, E.mkS, unN, zd, zn, za, GS, simprocAttr, GZ, h1, h2, h3, d1, d2, d3, hv, he, bne, hs0, Ver.zero, y9]
       refine yJ (by kernel_rfl) ?_
       simp (disch := ((try simp only [LL]); omega)) only [↓GO, ↓DRW, GA, GX, ren, zm, z8, refs, z7, cst, zo, isC, bin, una, z6, zc, blt, asArg, ze, zb, zf, z1, E.mkS, unN, zd, zn, za, GS, simprocAttr, GZ, h1, h2, h3, d1, d2, d3, hv, he, bne, hs0, Ver.zero, y9]
     · apply zq
       refine zr rfl Tryz.func71 rfl (by kernel_rfl) ?_
       unfold Tryz.f71
       simp (disch := ((try simp only [LL]); omega)) only [↓GO, ↓DRW, GA, GX, ren, zm, z8, refs, z7, cst, zo, isC, bin, una, z6, zc, blt, asArg, ze, zb, zf, z1, E.mkS, unN, zd, zn, za, GS, simprocAttr, GZ, h1, h2, h3, d1, d2, d3, hv, he, bne, hs0, y9]
       refine yJ (by kernel_rfl) ?_
       simp (disch := ((try simp only [LL]); omega)) only [↓GO, ↓DRW, GA, GX, ren, zm, z8, refs, z7, cst, zo, isC, bin, una, z6, zc, blt, asArg, ze, zb, zf, z1, E.mkS, unN, zd, zn, za, GS, simprocAttr, GZ, h1, h2, h3, d1, d2, d3, hv, he, bne, hs0, y9]
 · have hm := mq hn
   rw [hm]
   have hc : (((yB 46 (zW 45 s).1).length : Int) == 3) = false := by rw [beq_eq_false_iff_ne]; omega
   generalize yB 46 (zW 45 s).1 = parts at *
   apply zq
   refine zr rfl Tryz.func71 rfl (by kernel_rfl) ?_
   unfold Tryz.f71
   simp (disch := ((try simp only [LL]); omega)) only [↓GO, ↓DRW, GA, GX, ren, zm, z8, refs, z7, cst, zo, isC, bin, una, z6, zc, blt, asArg, ze, zb, zf, z1, E.mkS, unN, zd, zn, za, GS, simprocAttr, GZ, h1, h2, hc, bne, zj, Ver.zero, Ver.enc, y9]
theorem l_at (s : Str) (b : UInt8) (hl : s.length ≤ 4194304) : ∀ (rest pre : Str), s = pre ++ rest →
 EV Tryz.prog pol (.loop 190 26 0 [.t (.str s), .t (.int .u8 (b.toNat : Int)), .t (.int .i64 (pre.length : Int))] []) = some (cond (zW b rest).2.2 (.loop .ret [.t (.int .i64 ((pre.length : Int) + ((zW b rest).1.length : Int)))] []) (.loop (.exit 0) [.bad] []))
 | [], pre, hs => by
  have c : decide ((pre.length : Int) < (s.length : Int)) = false := by simp [hs]
  refine zh Tryz.func190 rfl rfl ?_
  simp only [↓GO, ↓DRW, GA, GX, ren, zm, z8, refs, z7, cst, zo, isC, bin, una, z6, zc, blt, asArg, ze, zb, zf, z1, E.mkS, unN, zd, zn, za, GS, simprocAttr, c, zW]
 | x :: rest, pre, hs => by
  have c : decide ((pre.length : Int) < (s.length : Int)) = true := by simp [hs]; omega
  have hget : s[pre.length]? = some x := by rw [hs]; exact tH pre x rest
  have hlen : s.length = pre.length + rest.length + 1 := by rw [hs]; simp; omega
  have IH := l_at s b hl rest (pre ++ [x]) (by rw [hs]; simp)
  rw [show ((pre ++ [x]).length : Int) = (pre.length : Int) + 1 by simp] at IH
  rw [zW]
  clear hs
  by_cases hx : x = b
  · subst hx
    rw [if_pos rfl]
    refine zh Tryz.func190 rfl rfl ?_
    simp (disch := ((try simp only [LL]); omega)) only [↓GO, ↓DRW, GA, GX, ren, zm, z8, refs, z7, cst, zo, isC, bin, una, z6, zc, blt, asArg, ze, zb, zf, z1, E.mkS, unN, zd, zn, za, GS, simprocAttr, GZ, c, hget, zi, Int.natCast_zero, Int.add_zero]
  · have c2 : ((x.toNat : Int) == (b.toNat : Int)) = false := by
     rw [beq_eq_false_iff_ne]; intro e; exact hx (UInt8.toNat_inj.1 (by omega))
    rw [if_neg hx]
    rw [show (((x :: (zW b rest).1).length : Nat) : Int) = ((zW b rest).1.length : Int) + 1 by simp, show (pre.length : Int) + (((zW b rest).1.length : Int) + 1) = (pre.length : Int) + 1 + ((zW b rest).1.length : Int) by omega]
    refine zh Tryz.func190 rfl rfl ?_
    simp (disch := ((try simp only [LL]); omega)) only [↓GO, ↓DRW, GA, GX, ren, zm, z8, refs, z7, cst, zo, isC, bin, una, z6, zc, blt, asArg, ze, zb, zf, z1, E.mkS, unN, zd, zn, za, GS, simprocAttr, GZ, c, hget, zi, c2, IH]
def atV (b : UInt8) (s : Str) : Int := cond (zW b s).2.2 ((zW b s).1.length : Int) (-1)
theorem c_at (s : Str) (b : UInt8) (hl : s.length ≤ 4194304) : zk (EV Tryz.prog pol) 190 [.t (.str s), .t (.int .u8 (b.toNat : Int))] = some (.t (.int .i64 (atV b s))) := by
 have IH := l_at s b hl s [] rfl
 simp only [List.length_nil, Int.natCast_zero, Int.zero_add] at IH
 unfold atV
 apply zq
 refine zr rfl Tryz.func190 rfl (by kernel_rfl) ?_
 unfold Tryz.f190
 cases h : (zW b s).2.2 <;> rw [h] at IH <;> simp only [cond_true, cond_false] at IH <;> simp (disch := ((try simp only [LL]); omega)) only [↓GO, ↓DRW, GA, GX, ren, zm, z8, refs, z7, cst, zo, isC, bin, una, z6, zc, blt, asArg, ze, zb, zf, z1, E.mkS, unN, zd, zn, za, GS, simprocAttr, GZ, IH]
theorem iH (s : Str) (hl : s.length ≤ 1048700) : zk (EV Tryz.prog pol) 90 [.t (.str s)] = some (rvT s) := by
 have h1 := c_at s 45 (by omega)
 rw [show (((45 : UInt8)).toNat : Int) = 45 from rfl] at h1
 have hl1 := qV 45 s
 have h2 := aM (zW 45 s).1 46 (by omega)
 have h3 := aM (zW 45 s).2.1 46 (by omega)
 rw [show (((46 : UInt8)).toNat : Int) = 46 from rfl] at h2 h3
 have hce := nJ 45 s
 unfold rvT zE
 unfold atV at h1
 have hA : (zW 45 s).2.2 = false → (zW 45 s).1 = s := fun h => by rw [h, cond_false, List.append_nil] at hce; exact hce.symm
 have hB : (zW 45 s).2.2 = true → s.take (zW 45 s).1.length = (zW 45 s).1 ∧ s.drop ((zW 45 s).1.length + 1) = (zW 45 s).2.1 ∧ (zW 45 s).1.length + 1 ≤ s.length := fun h => by
  rw [h, cond_true] at hce
  have e1 : s.take (zW 45 s).1.length = (zW 45 s).1 := by
   conv => lhs; arg 2; rw [hce]
   exact List.take_left
  have e2 : s.drop ((zW 45 s).1.length + 1) = (zW 45 s).2.1 := by
   conv => lhs; arg 2; rw [hce]
   rw [← List.drop_drop, List.drop_left]; rfl
  refine ⟨e1, e2, ?_⟩
  have := congrArg List.length hce
  rw [List.length_append, List.length_cons] at this
  omega
 clear hce
 by_cases hn : (yB 46 (zW 45 s).1).length = 3
 · obtain ⟨a, b, c, hp⟩ : ∃ a b c, yB 46 (zW 45 s).1 = [a, b, c] := by
    match hq : yB 46 (zW 45 s).1, hn with
    | [a, b, c], _ => exact ⟨a, b, c, rfl⟩
   have hm : wN s = some ⟨zH a, zH b, zH c, cond (zW 45 s).2.2 (yB 46 (zW 45 s).2.1) []⟩ := by unfold wN; rw [hp]
   have hsm := (lf hm hl).1
   have hbk := wI 46 (zW 45 s).1
   rw [hp] at h2 hbk
   simp only [ya] at hbk
   have d1 := iI a (by omega)
   have d2 := iI b (by omega)
   have d3 := iI c (by omega)
   have hv := dW _ hsm
   rw [hm]
   simp only [Ver.enc, List.map_cons, List.map_nil, vu, y9] at hv h2 ⊢
   generalize zH a = ra at *
   generalize zH b = rb at *
   generalize zH c = rc at *
   cases hh : (zW 45 s).2.2 <;> rw [hh] at h1 hv <;> simp only [cond_true, cond_false, y9] at hv h1 ⊢
   · have hA' := hA hh
     rw [hA'] at h2
     generalize yd ⟨ra, rb, rc, []⟩ = tt at *
     clear hm hsm hA hB hp
     cases he : (tt == s)
     · apply zq
       refine zr rfl Tryz.func90 rfl (by kernel_rfl) ?_
       unfold Tryz.f90
       simp (disch := ((try simp only [LL]); omega)) only [↓GO, ↓DRW, GA, GX, ren, zm, z8, refs, z7, cst, zo, isC, bin, una, z6, zc, blt, asArg, ze, zb, zf, z1, E.mkS, unN, zd, zn, za, GS, simprocAttr, GZ, h1, h2, d1, d2, d3, hv, he, bne, ge_iff_le, Ver.zero, y9]
     · apply zq
       refine zr rfl Tryz.func90 rfl (by kernel_rfl) ?_
       unfold Tryz.f90
       simp (disch := ((try simp only [LL]); omega)) only [↓GO, ↓DRW, GA, GX, ren, zm, z8, refs, z7, cst, zo, isC, bin, una, z6, zc, blt, asArg, ze, zb, zf, z1, E.mkS, unN, zd, zn, za, GS, simprocAttr, GZ, h1, h2, d1, d2, d3, hv, he, bne, ge_iff_le, y9]
   · obtain ⟨b1, b2, b3⟩ := hB hh
     generalize yd ⟨ra, rb, rc, yB 46 (zW 45 s).2.1⟩ = tt at *
     clear hm hsm hA hB hp
     generalize yB 46 (zW 45 s).2.1 = pp at *
     have g0 : decide ((0 : Int) ≤ ((zW 45 s).1.length : Int)) = true := by simp
     generalize (zW 45 s).2.1 = tl at *
     generalize (zW 45 s).1 = hd at *
     cases he : (tt == s)
     · apply zq
       refine zr rfl Tryz.func90 rfl (by kernel_rfl) ?_
       unfold Tryz.f90
       simp (disch := ((try simp only [LL]); omega)) only [↓GO, ↓DRW, GA, GX, ren, zm, z8, refs, z7, cst, zo, isC, bin, una, z6, zc, blt, asArg, ze, zb, zf, z1, E.mkS, unN, zd, zn, za, GS, simprocAttr, GZ, h1, h2, h3, d1, d2, d3, hv, he, bne, ge_iff_le, g0, b1, b2, zi, Ver.zero, y9]
     · apply zq
       refine zr rfl Tryz.func90 rfl (by kernel_rfl) ?_
       unfold Tryz.f90
       simp (disch := ((try simp only [LL]); omega)) only [↓GO, ↓DRW, GA, GX, ren, zm, z8, refs, z7, cst, zo, isC, bin, una, z6, zc, blt, asArg, ze, zb, zf, z1, E.mkS, unN, zd, zn, za, GS, simprocAttr, GZ, h1, h2, h3, d1, d2, d3, hv, he, bne, ge_iff_le, g0, b1, b2, zi]
 · have hm := mq hn
   rw [hm]
   have hc : (((yB 46 (zW 45 s).1).length : Int) == 3) = false := by rw [beq_eq_false_iff_ne]; omega
   cases hh : (zW 45 s).2.2 <;> rw [hh] at h1 <;> simp only [cond_true, cond_false] at h1
   · have hA' := hA hh
     rw [hA'] at h2 hc
     generalize yB 46 s = parts at *
     apply zq
     refine zr rfl Tryz.func90 rfl (by kernel_rfl) ?_
     unfold Tryz.f90
     simp (disch := ((try simp only [LL]); omega)) only [↓GO, ↓DRW, GA, GX, ren, zm, z8, refs, z7, cst, zo, isC, bin, una, z6, zc, blt, asArg, ze, zb, zf, z1, E.mkS, unN, zd, zn, za, GS, simprocAttr, GZ, h1, h2, hc, bne, ge_iff_le, zj, Ver.zero, Ver.enc, y9]
   · obtain ⟨b1, b2, b3⟩ := hB hh
     have g0 : decide ((0 : Int) ≤ ((zW 45 s).1.length : Int)) = true := by simp
     generalize yB 46 (zW 45 s).1 = parts at *
     generalize yB 46 (zW 45 s).2.1 = pp at *
     generalize (zW 45 s).2.1 = tl at *
     generalize (zW 45 s).1 = hd at *
     apply zq
     refine zr rfl Tryz.func90 rfl (by kernel_rfl) ?_
     unfold Tryz.f90
     simp (disch := ((try simp only [LL]); omega)) only [↓GO, ↓DRW, GA, GX, ren, zm, z8, refs, z7, cst, zo, isC, bin, una, z6, zc, blt, asArg, ze, zb, zf, z1, E.mkS, unN, zd, zn, za, GS, simprocAttr, GZ, h1, h2, h3, hc, bne, ge_iff_le, g0, b1, b2, zi, zj, Ver.zero, Ver.enc, y9]
end Go.Proofs.YtijninlbpifonaaGreatDoor
/- The range of a version alone, by both. Conditions: those of each lemma. -/
namespace Go.Proofs.YtijninlbpifonaaGreatDoor
open E
set_option linter.unusedSimpArgs false
set_option linter.unusedVariables false
set_option maxRecDepth 100000
theorem aW (a b c : Int) : Ver.sm ⟨a, b, c, [[48]]⟩ := by simp [Ver.sm, ya]
theorem c_zpI (a b c : Int) : zk (EV Tryz.prog pol) 283 [.t (.int .i64 a), .t (.int .i64 b), .t (.int .i64 c)] = some (.t (.str (xE a b c))) := by
 have h := qX ⟨a, b, c, [[48]]⟩ (aW a b c)
 simp only [Ver.enc, List.map_cons, List.map_nil, vu, y9] at h
 unfold xE
 apply zq
 refine zr rfl Tryz.func283 rfl (by kernel_rfl) ?_
 unfold Tryz.f283
 simp (disch := ((try simp only [LL]); omega)) only [↓GO, ↓DRW, GA, GX, ren, zm, z8, refs, z7, cst, zo, isC, bin, una, z6, zc, blt, asArg, ze, zb, zf, z1, E.mkS, unN, zd, zn, za, GS, simprocAttr, GZ, h]
theorem Q6 (v : Ver) (hs : v.sm) (hp : v.pre.length + ya v.pre ≤ 2097150) (h0 : -1 ≤ v.pat) (h1 : v.pat ≤ 999999999) : zk (EV Tryz.prog pol) 276 [.agg (v.enc.map .t)] = some (.agg [.t (.str (yd v)), .t (.str (lS v))]) := by
 have a1 := c_zpI v.maj v.min (v.pat + 1)
 have a2 := qX v hs
 have hpv : (rQ v).sm := by
  unfold Ver.sm rQ
  simp only [List.length_append, List.length_cons, List.length_nil, lA, ya]; omega
 have a3 := qX (rQ v) hpv
 unfold Ver.sm at hs
 have a4 := lz (strs v.pre) (by rw [zj]; omega)
 have ht : List.take (v.pre.length + 1) (strs v.pre ++ [[T.str [48]]]) = strs v.pre ++ [[T.str [48]]] := List.take_of_length_le (by simp [zj])
 have hg := aE v.pre
 unfold lS
 rw [show (rQ v).enc = [.int .i64 v.maj, .int .i64 v.min, .int .i64 v.pat, .list 1 (strs v.pre ++ [[.str [48]]])] by unfold Ver.enc rQ; rw [qJ]; rfl] at a3
 simp only [Ver.enc, List.map_cons, List.map_nil] at a2 a3 ⊢
 rw [zj] at a4
 generalize yd (rQ v) = tp at *
 generalize yd v = tv at *
 generalize xE v.maj v.min (v.pat + 1) = tz at *
 cases hb : (v.pre == []) <;> rw [hb] at hg <;> simp only [Bool.not_true, Bool.not_false] at hg
 · apply zq
   refine zr rfl Tryz.func276 rfl (by kernel_rfl) ?_
   unfold Tryz.f276
   simp (disch := ((try simp only [LL]); omega)) only [↓GO, ↓DRW, GA, GX, ren, zm, z8, refs, z7, cst, zo, isC, bin, una, z6, zc, blt, asArg, ze, zb, zf, z1, E.mkS, unN, zd, zn, za, GS, simprocAttr, GZ, a1, a2, a3, a4, ht, hg, zi, zj, xf, zD]
 · apply zq
   refine zr rfl Tryz.func276 rfl (by kernel_rfl) ?_
   unfold Tryz.f276
   simp (disch := ((try simp only [LL]); omega)) only [↓GO, ↓DRW, GA, GX, ren, zm, z8, refs, z7, cst, zo, isC, bin, una, z6, zc, blt, asArg, ze, zb, zf, z1, E.mkS, unN, zd, zn, za, GS, simprocAttr, GZ, a1, a2, a3, a4, ht, hg, zi, zj, xf, zD]
def exT (s : Str) : List (List T) := match vh s with
 | some (l, h) => [[.str l, .str h]]
 | none => []
theorem gN (s : Str) (hl : s.length ≤ 1048700) : (zE s).1.pre.length + ya (zE s).1.pre ≤ 1048701 := by
 unfold zE
 cases hm : wN s with
 | none => simp [Ver.zero, ya]
 | some v =>
  have h : v.pre.length + ya v.pre ≤ 1048701 := by
   unfold wN at hm
   split at hm
   · cases hm
     have := wI 46 (zW 45 s).2.1
     have h5 := (qV 45 s).2
     cases (zW 45 s).2.2 with
     | true => simp only [cond_true]; omega
     | false => simp [ya]
   · cases hm
  simp only
  cases (yd v == s) with
  | true => exact h
  | false => simp [Ver.zero, ya]
theorem c_exI (s : Str) (hl : s.length ≤ 1048700) : zk (EV Tryz.prog pol) 218 [.t (.str s)] = some (.t (.list 2 (exT s))) := by
 have h1 := YM s hl
 obtain ⟨m1, m2, m3, m4, m5, m6, m7⟩ := xG s hl
 have hp := gN s hl
 have h2 := Q6 (zE s).1 m1 (by omega) m7 m6
 unfold exT vh
 unfold rvT at h1
 cases hk : (zE s).2 with
 | false =>
  rw [hk] at h1
  generalize (zE s).1 = v at *
  generalize yd v = tv at *
  generalize lS v = hv at *
  simp only [Ver.enc, List.map_cons, List.map_nil] at h1 h2 ⊢
  apply zq
  refine zr rfl Tryz.func218 rfl (by kernel_rfl) ?_
  unfold Tryz.f218
  simp (disch := ((try simp only [LL]); omega)) only [↓GO, ↓DRW, GA, GX, ren, zm, z8, refs, z7, cst, zo, isC, bin, una, z6, zc, blt, asArg, ze, zb, zf, z1, E.mkS, unN, zd, zn, za, GS, simprocAttr, GZ, h1, h2]
 | true =>
  have ht := (yO hk).2.1
  rw [ht] at h2
  rw [hk] at h1
  generalize (zE s).1 = v at *
  generalize lS v = hv at *
  simp only [Ver.enc, List.map_cons, List.map_nil] at h1 h2 ⊢
  cases he : (hv == [])
  · apply zq
    refine zr rfl Tryz.func218 rfl (by kernel_rfl) ?_
    unfold Tryz.f218
    simp (disch := ((try simp only [LL]); omega)) only [↓GO, ↓DRW, GA, GX, ren, zm, z8, refs, z7, cst, zo, isC, bin, una, z6, zc, blt, asArg, ze, zb, zf, z1, E.mkS, unN, zd, zn, za, GS, simprocAttr, GZ, h1, h2, he]
  · apply zq
    refine zr rfl Tryz.func218 rfl (by kernel_rfl) ?_
    unfold Tryz.f218
    simp (disch := ((try simp only [LL]); omega)) only [↓GO, ↓DRW, GA, GX, ren, zm, z8, refs, z7, cst, zo, isC, bin, una, z6, zc, blt, asArg, ze, zb, zf, z1, E.mkS, unN, zd, zn, za, GS, simprocAttr, GZ, h1, h2, he]
end Go.Proofs.YtijninlbpifonaaGreatDoor
/- Versions compared, the next one, the range of one alone, by the reference. Conditions: those of each lemma. -/
namespace Go.Proofs.YtijninlbpifonaaGreatDoor
open E
set_option linter.unusedSimpArgs false
set_option linter.unusedVariables false
set_option maxRecDepth 100000
theorem og (a b : Int) : zk (EV Tryz.prog pol) 194 [.t (.int .i64 a), .t (.int .i64 b)] = some (.t (.int .i64 (yE a b))) := by
 unfold yE
 cases h1 : decide (a < b) <;> cases h2 : decide (a > b)
 all_goals
  apply zq
  refine zr rfl Tryz.func194 rfl (by kernel_rfl) ?_
  unfold Tryz.f194
  simp (disch := ((try simp only [LL]); omega)) only [↓GO, ↓DRW, GA, GX, ren, zm, z8, refs, z7, cst, zo, isC, bin, una, z6, zc, blt, asArg, ze, zb, zf, z1, E.mkS, unN, zd, zn, za, GS, simprocAttr, GZ, h1, h2]
theorem RN (a b : Str) : zk (EV Tryz.prog pol) 258 [.t (.str a), .t (.str b)] = some (.t (.int .i64 (rT a b))) := by
 unfold rT
 cases h1 : Op.bytesLess a b <;> cases h2 : (a == b)
 all_goals
  apply zq
  refine zr rfl Tryz.func258 rfl (by kernel_rfl) ?_
  unfold Tryz.f258
  simp (disch := ((try simp only [LL]); omega)) only [↓GO, ↓DRW, GA, GX, ren, zm, z8, refs, z7, cst, zo, isC, bin, una, z6, zc, blt, asArg, ze, zb, zf, z1, E.mkS, unN, zd, zn, za, GS, simprocAttr, GZ, h1, h2]
theorem Pj (a b : Str) (ha : a.length ≤ 4194304) (hb : b.length ≤ 4194304) : zk (EV Tryz.prog pol) 195 [.t (.str a), .t (.str b)] = some (.t (.int .i64 (ud a b))) := by
 have d1 := iI a (by omega)
 have d2 := iI b (by omega)
 have d3 := og (zH a) (zH b)
 have d4 := RN a b
 unfold ud
 generalize zH a = ra at *
 generalize zH b = rb at *
 cases h1 : decide (ra ≥ 0) <;> cases h2 : decide (rb ≥ 0)
 all_goals
  apply zq
  refine zr rfl Tryz.func195 rfl (by kernel_rfl) ?_
  unfold Tryz.f195
  simp (disch := ((try simp only [LL]); omega)) only [↓GO, ↓DRW, GA, GX, ren, zm, z8, refs, z7, cst, zo, isC, bin, una, z6, zc, blt, asArg, ze, zb, zf, z1, E.mkS, unN, zd, zn, za, GS, simprocAttr, GZ, d1, d2, d3, d4, h1, h2]
theorem P7 (x1 x2 x3 x4 y1 y2 y3 y4 : T) (a b c : Int) :
 EV Tryz.prog pol (.loop 92 58 0 [.ptr 0 0 0, .ptr 1 0 0, .sl 2 0 3 (some 3), .t (.int .i64 0)] [.vs 4 [[.t x1, .t x2, .t x3, .t x4]], .vs 4 [[.t y1, .t y2, .t y3, .t y4]], .ts 1 [[.int .i64 a], [.int .i64 b], [.int .i64 c]]])
 = some (cond (a == 0) (cond (b == 0) (cond (c == 0) (.loop (.exit 0) [.ptr 0 0 0, .ptr 1 0 0, .bad] [.vs 4 [[.t x1, .t x2, .t x3, .t x4]], .vs 4 [[.t y1, .t y2, .t y3, .t y4]]])
  (.loop .ret [.ptr 0 0 0, .ptr 1 0 0, .t (.int .i64 c)] [.vs 4 [[.t x1, .t x2, .t x3, .t x4]], .vs 4 [[.t y1, .t y2, .t y3, .t y4]]]))
  (.loop .ret [.ptr 0 0 0, .ptr 1 0 0, .t (.int .i64 b)] [.vs 4 [[.t x1, .t x2, .t x3, .t x4]], .vs 4 [[.t y1, .t y2, .t y3, .t y4]]]))
  (.loop .ret [.ptr 0 0 0, .ptr 1 0 0, .t (.int .i64 a)] [.vs 4 [[.t x1, .t x2, .t x3, .t x4]], .vs 4 [[.t y1, .t y2, .t y3, .t y4]]])) := by
 cases h1 : (a == 0)
 · refine zh Tryz.func92 rfl rfl ?_
   simp (disch := ((try simp only [LL]); omega)) only [↓GO, ↓DRW, GA, GX, ren, zm, z8, refs, z7, cst, zo, isC, bin, una, z6, zc, blt, asArg, ze, zb, zf, z1, E.mkS, unN, zd, zn, za, GS, simprocAttr, GZ, h1, bne, zi, zD]
 · refine zh Tryz.func92 rfl rfl ?_
   simp (disch := ((try simp only [LL]); omega)) only [↓GO, ↓DRW, GA, GX, ren, zm, z8, refs, z7, cst, zo, isC, bin, una, z6, zc, blt, asArg, ze, zb, zf, z1, E.mkS, unN, zd, zn, za, GS, simprocAttr, GZ, h1, bne, zi, zD, Int.zero_add]
   cases h2 : (b == 0)
   · refine zh Tryz.func92 rfl rfl ?_
     simp (disch := ((try simp only [LL]); omega)) only [↓GO, ↓DRW, GA, GX, ren, zm, z8, refs, z7, cst, zo, isC, bin, una, z6, zc, blt, asArg, ze, zb, zf, z1, E.mkS, unN, zd, zn, za, GS, simprocAttr, GZ, h2, bne, zi, zD]
   · refine zh Tryz.func92 rfl rfl ?_
     simp (disch := ((try simp only [LL]); omega)) only [↓GO, ↓DRW, GA, GX, ren, zm, z8, refs, z7, cst, zo, isC, bin, una, z6, zc, blt, asArg, ze, zb, zf, z1, E.mkS, unN, zd, zn, za, GS, simprocAttr, GZ, h2, bne, zi, zD, Int.reduceAdd]
     cases h3 : (c == 0)
     · refine zh Tryz.func92 rfl rfl ?_
       simp (disch := ((try simp only [LL]); omega)) only [↓GO, ↓DRW, GA, GX, ren, zm, z8, refs, z7, cst, zo, isC, bin, una, z6, zc, blt, asArg, ze, zb, zf, z1, E.mkS, unN, zd, zn, za, GS, simprocAttr, GZ, h3, bne, zi, zD]
     · refine zh Tryz.func92 rfl rfl ?_
       simp (disch := ((try simp only [LL]); omega)) only [↓GO, ↓DRW, GA, GX, ren, zm, z8, refs, z7, cst, zo, isC, bin, una, z6, zc, blt, asArg, ze, zb, zf, z1, E.mkS, unN, zd, zn, za, GS, simprocAttr, GZ, h3, bne, zi, zD, Int.reduceAdd]
       refine zh Tryz.func92 rfl rfl ?_
       simp (disch := ((try simp only [LL]); omega)) only [↓GO, ↓DRW, GA, GX, ren, zm, z8, refs, z7, cst, zo, isC, bin, una, z6, zc, blt, asArg, ze, zb, zf, z1, E.mkS, unN, zd, zn, za, GS, simprocAttr, GZ, zi, zD]
theorem TY (a b : Ver) (ha : a.sm) (hb : b.sm) : ∀ (ra rb pa pb : List Str), a.pre = pa ++ ra → b.pre = pb ++ rb → pa.length = pb.length →
 EV Tryz.prog pol (.loop 92 250 0 [.ptr 0 0 0, .ptr 1 0 0, .t (.int .i64 (pa.length : Int))] [.vs 4 [a.enc.map .t], .vs 4 [b.enc.map .t]])
 = some (match uf ra rb with
  | some n => .loop .ret [.ptr 0 0 0, .ptr 1 0 0, .t (.int .i64 n)] [.vs 4 [a.enc.map .t], .vs 4 [b.enc.map .t]]
  | none => .loop (.exit 2) [.ptr 0 0 0, .ptr 1 0 0, .bad] [.vs 4 [a.enc.map .t], .vs 4 [b.enc.map .t]])
 | [], rb, pa, pb, h1, h2, h3 => by
  have c : decide ((pa.length : Int) < (a.pre.length : Int)) = false := by simp [h1]
  simp only [Ver.enc, List.map_cons, List.map_nil, uf]
  refine zh Tryz.func92 rfl rfl ?_
  simp (disch := ((try simp only [LL]); omega)) only [↓GO, ↓DRW, GA, GX, ren, zm, z8, refs, z7, cst, zo, isC, bin, una, z6, zc, blt, asArg, ze, zb, zf, z1, E.mkS, unN, zd, zn, za, GS, simprocAttr, GZ, zj, c, zD]
 | x :: ra, [], pa, pb, h1, h2, h3 => by
  have c : decide ((pa.length : Int) < (a.pre.length : Int)) = true := by simp [h1]; omega
  have c2 : decide ((pa.length : Int) < (b.pre.length : Int)) = false := by simp [h2]; omega
  simp only [Ver.enc, List.map_cons, List.map_nil, uf]
  refine zh Tryz.func92 rfl rfl ?_
  simp (disch := ((try simp only [LL]); omega)) only [↓GO, ↓DRW, GA, GX, ren, zm, z8, refs, z7, cst, zo, isC, bin, una, z6, zc, blt, asArg, ze, zb, zf, z1, E.mkS, unN, zd, zn, za, GS, simprocAttr, GZ, zj, c, c2, zD]
 | x :: ra, y :: rb, pa, pb, h1, h2, h3 => by
  unfold Ver.sm at ha hb
  have c : decide ((pa.length : Int) < (a.pre.length : Int)) = true := by simp [h1]; omega
  have c2 : decide ((pa.length : Int) < (b.pre.length : Int)) = true := by simp [h2]; omega
  have hg1 : (strs a.pre)[pa.length]? = some [.str x] := by rw [h1]; exact xJ pa x ra
  have hg2 : (strs b.pre)[pa.length]? = some [.str y] := by rw [h2, h3]; exact xJ pb y rb
  have hlen : pa.length + ra.length + 1 ≤ a.pre.length := by rw [h1]; simp; omega
  have hx : x.length ≤ 2097152 := by have := wh (ks := a.pre) (s := x) (by rw [h1]; simp); omega
  have hy : y.length ≤ 2097152 := by have := wh (ks := b.pre) (s := y) (by rw [h2]; simp); omega
  have hp := Pj x y (by omega) (by omega)
  have IH := TY a b ha hb ra rb (pa ++ [x]) (pb ++ [y]) (by rw [h1]; simp) (by rw [h2]; simp) (by simp [h3])
  rw [show ((pa ++ [x]).length : Int) = (pa.length : Int) + 1 by simp] at IH
  clear h1 h2
  simp only [Ver.enc, List.map_cons, List.map_nil] at IH ⊢
  rw [uf]
  generalize ud x y = n at *
  cases hn : (n == 0)
  · simp only [cond_false]
    refine zh Tryz.func92 rfl rfl ?_
    simp (disch := ((try simp only [LL]); omega)) only [↓GO, ↓DRW, GA, GX, ren, zm, z8, refs, z7, cst, zo, isC, bin, una, z6, zc, blt, asArg, ze, zb, zf, z1, E.mkS, unN, zd, zn, za, GS, simprocAttr, GZ, zj, c, c2, hg1, hg2, hp, hn, bne, zi, zD]
  · simp only [cond_true]
    refine zh Tryz.func92 rfl rfl ?_
    simp (disch := ((try simp only [LL]); omega)) only [↓GO, ↓DRW, GA, GX, ren, zm, z8, refs, z7, cst, zo, isC, bin, una, z6, zc, blt, asArg, ze, zb, zf, z1, E.mkS, unN, zd, zn, za, GS, simprocAttr, GZ, zj, c, c2, hg1, hg2, hp, hn, bne, zi, zD, IH]
theorem aN (a b : Ver) (ha : a.sm) (hb : b.sm) : zk (EV Tryz.prog pol) 92 [.agg (a.enc.map .t), .agg (b.enc.map .t)] = some (.t (.int .i64 (mL a b))) := by
 have d1 := og a.maj b.maj
 have d2 := og a.min b.min
 have d3 := og a.pat b.pat
 have d4 := og (b.pre.length : Int) (a.pre.length : Int)
 have d5 := og (a.pre.length : Int) (b.pre.length : Int)
 have L2 := TY a b ha hb a.pre b.pre [] [] rfl rfl rfl
 have L1 := P7 (.int .i64 a.maj) (.int .i64 a.min) (.int .i64 a.pat) (.list 1 (strs a.pre)) (.int .i64 b.maj) (.int .i64 b.min) (.int .i64 b.pat) (.list 1 (strs b.pre)) (yE a.maj b.maj) (yE a.min b.min) (yE a.pat b.pat)
 have e1 := rq a.pre
 have e2 := rq b.pre
 unfold mL vc
 simp only [List.length_nil, Int.natCast_zero] at L2
 simp only [Ver.enc, List.map_cons, List.map_nil] at L1 L2 ⊢
 generalize yE a.maj b.maj = n1 at *
 generalize yE a.min b.min = n2 at *
 generalize yE a.pat b.pat = n3 at *
 cases h1 : (n1 == 0) <;> rw [h1] at L1
 · simp only [cond_false] at L1
   apply zq
   refine zr rfl Tryz.func92 rfl (by kernel_rfl) ?_
   unfold Tryz.f92
   simp (disch := ((try simp only [LL]); omega)) only [↓GO, ↓DRW, GA, GX, ren, zm, z8, refs, z7, cst, zo, isC, bin, una, z6, zc, blt, asArg, ze, zb, zf, z1, E.mkS, unN, zd, zn, za, GS, simprocAttr, GZ, d1, d2, d3, L1, zD]
   refine yJ (by kernel_rfl) ?_
   simp (disch := ((try simp only [LL]); omega)) only [↓GO, ↓DRW, GA, GX, ren, zm, z8, refs, z7, cst, zo, isC, bin, una, z6, zc, blt, asArg, ze, zb, zf, z1, E.mkS, unN, zd, zn, za, GS, simprocAttr, GZ, d1, d2, d3, L1, zD]
 · cases h2 : (n2 == 0) <;> rw [h2] at L1
   · simp only [cond_false, cond_true] at L1
     apply zq
     refine zr rfl Tryz.func92 rfl (by kernel_rfl) ?_
     unfold Tryz.f92
     simp (disch := ((try simp only [LL]); omega)) only [↓GO, ↓DRW, GA, GX, ren, zm, z8, refs, z7, cst, zo, isC, bin, una, z6, zc, blt, asArg, ze, zb, zf, z1, E.mkS, unN, zd, zn, za, GS, simprocAttr, GZ, d1, d2, d3, L1, zD]
     refine yJ (by kernel_rfl) ?_
     simp (disch := ((try simp only [LL]); omega)) only [↓GO, ↓DRW, GA, GX, ren, zm, z8, refs, z7, cst, zo, isC, bin, una, z6, zc, blt, asArg, ze, zb, zf, z1, E.mkS, unN, zd, zn, za, GS, simprocAttr, GZ, d1, d2, d3, L1, zD]
   · cases h3 : (n3 == 0) <;> rw [h3] at L1
     · simp only [cond_false, cond_true] at L1
       apply zq
       refine zr rfl Tryz.func92 rfl (by kernel_rfl) ?_
       unfold Tryz.f92
       simp (disch := ((try simp only [LL]); omega)) only [↓GO, ↓DRW, GA, GX, ren, zm, z8, refs, z7, cst, zo, isC, bin, una, z6, zc, blt, asArg, ze, zb, zf, z1, E.mkS, unN, zd, zn, za, GS, simprocAttr, GZ, d1, d2, d3, L1, zD]
       refine yJ (by kernel_rfl) ?_
       simp (disch := ((try simp only [LL]); omega)) only [↓GO, ↓DRW, GA, GX, ren, zm, z8, refs, z7, cst, zo, isC, bin, una, z6, zc, blt, asArg, ze, zb, zf, z1, E.mkS, unN, zd, zn, za, GS, simprocAttr, GZ, d1, d2, d3, L1, zD]
     · simp only [cond_true] at L1
       cases hs : uf a.pre b.pre <;> rw [hs] at L2 <;> simp only at L2 <;> cases h4 : (a.pre == []) <;> cases h5 : (b.pre == []) <;> rw [h4] at e1 <;> rw [h5] at e2
       all_goals
        apply zq
        refine zr rfl Tryz.func92 rfl (by kernel_rfl) ?_
        unfold Tryz.f92
        simp (disch := ((try simp only [LL]); omega)) only [↓GO, ↓DRW, GA, GX, ren, zm, z8, refs, z7, cst, zo, isC, bin, una, z6, zc, blt, asArg, ze, zb, zf, z1, E.mkS, unN, zd, zn, za, GS, simprocAttr, GZ, d1, d2, d3, d4, d5, L1, L2, zj, e1, e2, zD]
        refine yJ (by kernel_rfl) ?_
        simp (disch := ((try simp only [LL]); omega)) only [↓GO, ↓DRW, GA, GX, ren, zm, z8, refs, z7, cst, zo, isC, bin, una, z6, zc, blt, asArg, ze, zb, zf, z1, E.mkS, unN, zd, zn, za, GS, simprocAttr, GZ, d1, d2, d3, d4, d5, L1, L2, zj, e1, e2, zD, Option.getD_some, Option.getD_none]
end Go.Proofs.YtijninlbpifonaaGreatDoor
/- The next version, the range of one alone, by the reference. Conditions: those of each lemma. -/
namespace Go.Proofs.YtijninlbpifonaaGreatDoor
open E
set_option linter.unusedSimpArgs false
set_option linter.unusedVariables false
set_option maxRecDepth 100000
theorem Qp (v : Ver) (p : Int) : (upV v p).sm := by
 unfold upV
 cases (p == 0) <;> cases (p == 1) <;> simp [Ver.sm, ya]
theorem R9 {v : Ver} (h : v.sm) (p : Int) : (wM v p).sm := by
 unfold wM
 cases (!(yA v) || !(B2 p 0 2)) <;> cases yA (upV v p) <;> simp only [cond_true, cond_false] <;> first | exact h | exact Qp v p
theorem Pk (v : Ver) (p : Int) (hs : v.sm) (hp : p = 0 ∨ p = 1 ∨ p = 2) (h1 : -1 ≤ v.maj ∧ v.maj ≤ 999999999) (h2 : -1 ≤ v.min ∧ v.min ≤ 999999999) (h3 : -1 ≤ v.pat ∧ v.pat ≤ 999999999) :
 zk (EV Tryz.prog pol) 358 [.agg (v.enc.map .t), .t (.int .i64 p)] = some (.agg ((wM v p).enc.map .t)) := by
 have d1 := aL v hs
 have d2 := aL (upV v p) (Qp v p)
 have d3 := xZ p 0 2
 have hb : B2 p 0 2 = true := by rcases hp with rfl | rfl | rfl <;> rfl
 have e1 := rq v.pre
 have ht : List.take (0 + (strs v.pre).length) (strs v.pre) = strs v.pre := List.take_of_length_le (by omega)
 have ht2 : List.take v.pre.length (strs v.pre) = strs v.pre := List.take_of_length_le (by rw [zj]; omega)
 unfold Ver.sm at hs
 rw [hb] at d3
 unfold wM
 rw [hb]
 simp only [Bool.not_true, Bool.or_false]
 cases ho : yA v <;> rw [ho] at d1
 · simp only [Ver.enc, List.map_cons, List.map_nil, Bool.not_false, cond_true] at d1 ⊢
   apply zq
   refine zr rfl Tryz.func358 rfl (by kernel_rfl) ?_
   unfold Tryz.f358
   simp (disch := ((try simp only [LL]); omega)) only [↓GO, ↓DRW, GA, GX, ren, zm, z8, refs, z7, cst, zo, isC, bin, una, z6, zc, blt, asArg, ze, zb, zf, z1, E.mkS, unN, zd, zn, za, GS, simprocAttr, GZ, d1, zj, ht, ht2, xf]
 · simp only [Bool.not_true, cond_false]
   unfold upV at d2 ⊢
   rcases hp with rfl | rfl | rfl
   · simp only [show ((0 : Int) == 0) = true from rfl, cond_true] at d2 ⊢
     cases hu : yA ⟨v.maj + 1, 0, 0, []⟩ <;> rw [hu] at d2 <;> simp only [Ver.enc, List.map_cons, List.map_nil, y9, cond_true, cond_false] at d1 d2 ⊢
     all_goals
      apply zq
      refine zr rfl Tryz.func358 rfl (by kernel_rfl) ?_
      unfold Tryz.f358
      simp (disch := ((try simp only [LL]); omega)) only [↓GO, ↓DRW, GA, GX, ren, zm, z8, refs, z7, cst, zo, isC, bin, una, z6, zc, blt, asArg, ze, zb, zf, z1, E.mkS, unN, zd, zn, za, GS, simprocAttr, GZ, d1, d2, d3, zj, ht, ht2, xf, zi]
   · simp only [show ((1 : Int) == 0) = false from rfl, show ((1 : Int) == 1) = true from rfl, cond_true, cond_false] at d2 ⊢
     cases hu : yA ⟨v.maj, v.min + 1, 0, []⟩ <;> rw [hu] at d2 <;> simp only [Ver.enc, List.map_cons, List.map_nil, y9, cond_true, cond_false] at d1 d2 ⊢
     all_goals
      apply zq
      refine zr rfl Tryz.func358 rfl (by kernel_rfl) ?_
      unfold Tryz.f358
      simp (disch := ((try simp only [LL]); omega)) only [↓GO, ↓DRW, GA, GX, ren, zm, z8, refs, z7, cst, zo, isC, bin, una, z6, zc, blt, asArg, ze, zb, zf, z1, E.mkS, unN, zd, zn, za, GS, simprocAttr, GZ, d1, d2, d3, zj, ht, ht2, xf, zi]
   · simp only [show ((2 : Int) == 0) = false from rfl, show ((2 : Int) == 1) = false from rfl, cond_false] at d2 ⊢
     cases hq : (v.pre == []) <;> rw [hq] at e1 d2 <;> simp only [cond_true, cond_false] at d2 ⊢
     · cases hu : yA ⟨v.maj, v.min, v.pat, []⟩ <;> rw [hu] at d2 <;> simp only [Ver.enc, List.map_cons, List.map_nil, y9, cond_true, cond_false] at d1 d2 ⊢
       all_goals
        apply zq
        refine zr rfl Tryz.func358 rfl (by kernel_rfl) ?_
        unfold Tryz.f358
        simp (disch := ((try simp only [LL]); omega)) only [↓GO, ↓DRW, GA, GX, ren, zm, z8, refs, z7, cst, zo, isC, bin, una, z6, zc, blt, asArg, ze, zb, zf, z1, E.mkS, unN, zd, zn, za, GS, simprocAttr, GZ, d1, d2, d3, e1, zj, ht, ht2, xf, zi]
     · cases hu : yA ⟨v.maj, v.min, v.pat + 1, []⟩ <;> rw [hu] at d2 <;> simp only [Ver.enc, List.map_cons, List.map_nil, y9, cond_true, cond_false] at d1 d2 ⊢
       all_goals
        apply zq
        refine zr rfl Tryz.func358 rfl (by kernel_rfl) ?_
        unfold Tryz.f358
        simp (disch := ((try simp only [LL]); omega)) only [↓GO, ↓DRW, GA, GX, ren, zm, z8, refs, z7, cst, zo, isC, bin, una, z6, zc, blt, asArg, ze, zb, zf, z1, E.mkS, unN, zd, zn, za, GS, simprocAttr, GZ, d1, d2, d3, e1, zj, ht, ht2, xf, zi]
theorem gl (v : Ver) : (yT v).sm := by simp [yT, Ver.sm, ya]
theorem Q5 (v : Ver) (p : Int) (hs : v.sm) (hp : p = 0 ∨ p = 1 ∨ p = 2) (h1 : -1 ≤ v.maj ∧ v.maj ≤ 999999999) (h2 : -1 ≤ v.min ∧ v.min ≤ 999999999) (h3 : -1 ≤ v.pat ∧ v.pat ≤ 999999999) :
 zk (EV Tryz.prog pol) 328 [.agg (v.enc.map .t), .t (.int .i64 p)] = some (.tup [.t (.str (lP v p).1), .t (.bool (lP v p).2)]) := by
 have d1 := Pk (yT v) p (gl v) hp h1 h2 h3
 have d2 := aN (wM (yT v) p) (yT v) (R9 (gl v) p) (gl v)
 have d3 := dW ⟨(wM (yT v) p).maj, (wM (yT v) p).min, (wM (yT v) p).pat, [[48]]⟩ (aW _ _ _)
 unfold lP
 generalize mL (wM (yT v) p) (yT v) = cm at *
 generalize yd ⟨(wM (yT v) p).maj, (wM (yT v) p).min, (wM (yT v) p).pat, [[48]]⟩ = tx at *
 generalize wM (yT v) p = nx at *
 simp only [Ver.enc, yT, List.map_cons, List.map_nil, vu, y9] at d1 d2 d3 ⊢
 cases hc : (cm == 0)
 all_goals
  apply zq
  refine zr rfl Tryz.func328 rfl (by kernel_rfl) ?_
  unfold Tryz.f328
  simp (disch := ((try simp only [LL]); omega)) only [↓GO, ↓DRW, GA, GX, ren, zm, z8, refs, z7, cst, zo, isC, bin, una, z6, zc, blt, asArg, ze, zb, zf, z1, E.mkS, unN, zd, zn, za, GS, simprocAttr, GZ, d1, d2, d3, hc, y9]
def alT (s : Str) : V := match vh s with
 | some (l, h) => .tup [.agg [.t (.str l), .t (.str h)], .t (.bool true)]
 | none => .tup [.agg [.t (.str []), .t (.str [])], .t (.bool false)]
theorem UK (s : Str) (hl : s.length ≤ 1048600) : zk (EV Tryz.prog pol) 275 [.t (.str s)] = some (alT s) := by
 have d1 := iH s (by omega)
 have d2 := iH (s ++ [46, 48]) (by simp only [List.length_append, List.length_cons, List.length_nil]; omega)
 obtain ⟨m1, m2, m3, m4, m5, m6, m7⟩ := xG s (by omega)
 have d3 := Q5 (zE s).1 2 m1 (by omega) ⟨m3, m2⟩ ⟨m5, m4⟩ ⟨m7, m6⟩
 have hg := aE (zE s).1.pre
 unfold rvT at d1 d2
 unfold alT vh lS
 cases hk : (zE s).2 with
 | false =>
  rw [hk] at d1
  generalize (zE s).1 = v at *
  simp only [Bool.false_and, cond_false]
  simp only [Ver.enc, List.map_cons, List.map_nil] at d1 ⊢
  apply zq
  refine zr rfl Tryz.func275 rfl (by kernel_rfl) ?_
  unfold Tryz.f275
  simp (disch := ((try simp only [LL]); omega)) only [↓GO, ↓DRW, GA, GX, ren, zm, z8, refs, z7, cst, zo, isC, bin, una, z6, zc, blt, asArg, ze, zb, zf, z1, E.mkS, unN, zd, zn, za, GS, simprocAttr, GZ, d1]
 | true =>
  have ho := (yO hk).2.2.1
  rw [hk] at d1
  cases hp : ((zE s).1.pre == []) with
  | true =>
   have hb := UR ho 2 (by omega)
   simp only [show ((2 : Int) == 0) = false from rfl, show ((2 : Int) == 1) = false from rfl, show ((2 : Int) == 2) = true from rfl, cond_true, cond_false] at hb
   rw [hb] at d3
   rw [hp] at hg
   simp only [Bool.not_true, cond_true, Bool.true_and] at hg ⊢
   generalize (zE s).1 = v at *
   generalize xE v.maj v.min (v.pat + 1) = zp at *
   simp only [Ver.enc, List.map_cons, List.map_nil] at d1 d3 ⊢
   clear d2 hb
   cases hz : (zp == []) <;> rw [hz] at d3 <;> simp only [Bool.not_true, Bool.not_false, cond_true, cond_false] at d3 ⊢
   all_goals
    apply zq
    refine zr rfl Tryz.func275 rfl (by kernel_rfl) ?_
    unfold Tryz.f275
    simp (disch := ((try simp only [LL]); omega)) only [↓GO, ↓DRW, GA, GX, ren, zm, z8, refs, z7, cst, zo, isC, bin, una, z6, zc, blt, asArg, ze, zb, zf, z1, E.mkS, unN, zd, zn, za, GS, simprocAttr, GZ, d1, d3, hg, zj]
  | false =>
   obtain ⟨r1, r2⟩ := X8 hk (fun h => by rw [h] at hp; cases hp)
   rw [r1] at d2
   rw [hp] at hg
   simp only [Bool.not_false, cond_false, Bool.true_and] at hg ⊢
   rw [r2]
   generalize yA (rQ (zE s).1) = pk at *
   generalize rQ (zE s).1 = pv at *
   generalize (zE s).1 = v at *
   have hne : ((s ++ [46, 48]) == []) = false := by cases s <;> rfl
   simp only [Ver.enc, List.map_cons, List.map_nil] at d1 ⊢
   cases pk <;> simp only [Ver.enc, List.map_cons, List.map_nil, cond_true, cond_false, hne, Bool.not_false, show (([] : Str) == []) = true from rfl, Bool.not_true] at d2 ⊢
   all_goals
    apply zq
    refine zr rfl Tryz.func275 rfl (by kernel_rfl) ?_
    unfold Tryz.f275
    simp (disch := ((try simp only [LL]); omega)) only [↓GO, ↓DRW, GA, GX, ren, zm, z8, refs, z7, cst, zo, isC, bin, una, z6, zc, blt, asArg, ze, zb, zf, z1, E.mkS, unN, zd, zn, za, GS, simprocAttr, GZ, d1, d2, hg, zj, xf]
theorem c_exR (s : Str) (hl : s.length ≤ 1048600) : zk (EV Tryz.prog pol) 217 [.t (.str s)] = some (.t (.list 2 (exT s))) := by
 have d1 := UK s hl
 unfold exT
 unfold alT at d1
 cases he : vh s with
 | none =>
  rw [he] at d1
  simp only at d1 ⊢
  apply zq
  refine zr rfl Tryz.func217 rfl (by kernel_rfl) ?_
  unfold Tryz.f217
  simp (disch := ((try simp only [LL]); omega)) only [↓GO, ↓DRW, GA, GX, ren, zm, z8, refs, z7, cst, zo, isC, bin, una, z6, zc, blt, asArg, ze, zb, zf, z1, E.mkS, unN, zd, zn, za, GS, simprocAttr, GZ, d1]
 | some x =>
  obtain ⟨l, h⟩ := x
  rw [he] at d1
  simp only at d1 ⊢
  apply zq
  refine zr rfl Tryz.func217 rfl (by kernel_rfl) ?_
  unfold Tryz.f217
  simp (disch := ((try simp only [LL]); omega)) only [↓GO, ↓DRW, GA, GX, ren, zm, z8, refs, z7, cst, zo, isC, bin, una, z6, zc, blt, asArg, ze, zb, zf, z1, E.mkS, unN, zd, zn, za, GS, simprocAttr, GZ, d1]
end Go.Proofs.YtijninlbpifonaaGreatDoor
/- The library's searches, at fields. Conditions: those of each lemma. -/
namespace Go.Proofs.YtijninlbpifonaaGreatDoor
open E
set_option linter.unusedSimpArgs false
set_option linter.unusedVariables false
set_option maxRecDepth 100000
/-- the first place at which something holds -/
def wJ {α : Type} (p : α → Bool) : List α → Nat → Option Nat
 | [], _ => none
 | x :: r, n => if p x = true then some n else wJ p r (n + 1)
def ixI : Option Nat → Int
 | some n => (n : Int)
 | none => -1
theorem lu {α : Type} (p : α → Bool) : ∀ (l : List α) (n : Nat), (wJ p l n).isSome = l.any p
 | [], _ => rfl
 | x :: r, n => by
  simp only [wJ, List.any_cons]
  split
  · rename_i h; simp [h]
  · rename_i h; rw [lu p r (n + 1)]; simp [h]
end Go.Proofs.YtijninlbpifonaaGreatDoor
/- The library's searches, at packs and sums. Conditions: those of each lemma. -/
namespace Go.Proofs.YtijninlbpifonaaGreatDoor
open E
set_option linter.unusedSimpArgs false
set_option linter.unusedVariables false
set_option maxRecDepth 100000
theorem oK (g : Nat) (caps : List T) (p : zg → Bool) (es : List zg) (hl : es.length ≤ 4611686018427387904) (hp : ∀ x ∈ es, zk (EV Tryz.prog pol) g (.agg (x.enc.map .t) :: caps.map .t) = some (.t (.bool (p x)))) : ∀ (rest pre : List zg), es = pre ++ rest →
 EV Tryz.prog pol (.loop 133 26 0 [.t (.list 6 (zg.zA es)), .t (.fn g caps), .t (.int .i64 (es.length : Int)), .t (.int .i64 (pre.length : Int))] []) = some (match wJ p rest pre.length with | some i => .loop .ret [.t (.int .i64 (i : Int))] [] | none => .loop (.exit 0) [.bad] [])
 | [], pre, hs => by
  have c : decide ((pre.length : Int) < (es.length : Int)) = false := by simp [hs]
  refine zh Tryz.func133 rfl rfl ?_
  simp only [↓GO, ↓DRW, GA, GX, ren, zm, z8, refs, z7, cst, zo, isC, bin, una, z6, zc, blt, asArg, ze, zb, zf, z1, E.mkS, unN, zd, zn, za, GS, simprocAttr, c, wJ]
 | b :: rest, pre, hs => by
  have c : decide ((pre.length : Int) < (es.length : Int)) = true := by simp [hs]; omega
  have hi : pre.length < es.length := by rw [hs]; simp
  have hget := zg.yR es pre.length hi
  have hgb : es[pre.length] = b := by simp [hs]
  rw [hgb] at hget
  have hb := hp b (by rw [hs]; simp)
  have e1 : (pre.length : Int) + 1 = ((pre ++ [b]).length : Int) := by simp
  have IH := oK g caps p es hl hp rest (pre ++ [b]) (by rw [hs]; simp)
  refine zh Tryz.func133 rfl rfl ?_
  simp only [wJ]
  cases hpb : p b with
  | true =>
   rw [hpb] at hb
   simp (disch := omega) only [↓GO, ↓DRW, GA, GX, ren, zm, z8, refs, z7, cst, zo, isC, bin, una, z6, zc, blt, asArg, ze, zb, zf, z1, E.mkS, unN, zd, zn, za, GS, simprocAttr, zg.zx, c, hget, zg.vq, zg.wg, zi, hb]
  | false =>
   rw [hpb] at hb
   simp (disch := omega) only [↓GO, ↓DRW, GA, GX, ren, zm, z8, refs, z7, cst, zo, isC, bin, una, z6, zc, blt, asArg, ze, zb, zf, z1, E.mkS, unN, zd, zn, za, GS, simprocAttr, zg.zx, c, hget, zg.vq, zg.wg, zi, hb]
   rw [e1, IH]
   simp
theorem fc (g : Nat) (caps : List T) (p : zg → Bool) (es : List zg) (hl : es.length ≤ 4611686018427387904) (hp : ∀ x ∈ es, zk (EV Tryz.prog pol) g (.agg (x.enc.map .t) :: caps.map .t) = some (.t (.bool (p x)))) :
 zk (EV Tryz.prog pol) 133 [.t (.list 6 (zg.zA es)), .t (.fn g caps)] = some (.t (.int .i64 (ixI (wJ p es 0)))) := by
 have IH := oK g caps p es hl hp es [] rfl
 simp only [List.length_nil, Int.natCast_zero] at IH
 apply zq
 refine zr rfl Tryz.func133 rfl (by kernel_rfl) ?_
 unfold Tryz.f133
 cases hf : wJ p es 0 with
 | none => rw [hf] at IH; simp only [↓GO, ↓DRW, GA, GX, ren, zm, z8, refs, z7, cst, zo, isC, bin, una, z6, zc, blt, asArg, ze, zb, zf, z1, E.mkS, unN, zd, zn, za, GS, simprocAttr, zg.zx, IH, ixI]
 | some i => rw [hf] at IH; simp only [↓GO, ↓DRW, GA, GX, ren, zm, z8, refs, z7, cst, zo, isC, bin, una, z6, zc, blt, asArg, ze, zb, zf, z1, E.mkS, unN, zd, zn, za, GS, simprocAttr, zg.zx, IH, ixI]
end Go.Proofs.YtijninlbpifonaaGreatDoor
/- Packs and graphs, plain. Conditions: none. -/
namespace Go.Proofs.YtijninlbpifonaaGreatDoor
open E
set_option linter.unusedVariables false
set_option linter.unusedSimpArgs false
set_option maxRecDepth 100000
def Sm : Str := [115, 104, 97, 49]
def iO : Str := [115, 104, 97, 50, 53, 54]
def h1S : Str := [104, 49]
def iN : Str := [115, 104, 97, 53, 49, 50]
def tB (a : Str) : Int := cond (a == Sm) 20 (cond (a == iO || a == h1S) 32 (cond (a == iN) 64 (-1)))
/-- is a text above the one ahead, if there is one? -/
def vZ (prev : Option Str) (s : Str) : Bool := match prev with
 | none => true
 | some p => Op.bytesLess p s
def vg : Option Str → List zF → Bool
 | _, [] => true
 | prev, s :: r => (((s.bytes.length : Int) == tB s.alg) && vZ prev s.alg) && vg (some s.alg) r
def keyOf (p : zg) : Str := (p.name ++ [64]) ++ p.version
def GY (ps : List zg) (k : Str) : Bool := ps.any fun p => keyOf p == k
def py (ps : List zg) (k : Str) : Option Nat := wJ (fun p => keyOf p == k) ps 0
def xM (ps : List zg) : Option Str → List Str → Bool
 | _, [] => true
 | prev, k :: r => (GY ps k && vZ prev k) && xM ps (some k) r
def qu (p : zg) : Bool := sH p.name && ((vh p.version).isSome && (tu p.source && vg none p.sums))
def wS (ps : List zg) : Option Str → List zg → Bool
 | _, [] => true
 | prev, p :: r => (qu p && (vZ prev (keyOf p) && xM ps none p.needs)) && wS ps (some (keyOf p)) r
def y7 (g : zy) : Bool := wS g.packs none g.packs && (decide ((g.packs.length : Int) ≤ 40) && xM g.packs none g.top)
theorem S1 {α : Type} (p : α → Bool) (l : List α) : decide (ixI (wJ p l 0) < 0) = !(l.any p) := by
 rw [← lu p l 0]
 cases wJ p l 0 with
 | none => rfl
 | some n =>
  have h : ¬ ((n : Int) < 0) := by omega
  show decide ((n : Int) < 0) = false
  exact decide_eq_false h
/-- the one ahead of a place -/
theorem uK {α : Type} (f : α → List T) (pre : List α) (q : α) (rest : List α) : vJ ((pre ++ [q] ++ rest).map f) (((pre ++ [q]).length : Int) - 1) = some (f q) := by
 unfold vJ
 rw [if_pos (by simp)]
 have e : (((pre ++ [q]).length : Int) - 1).toNat = pre.length := by simp
 rw [e]
 simp
theorem pe {α : Type} (f : α → List T) (pre : List α) (x : α) (rest : List α) : ((pre ++ x :: rest).map f)[pre.length]? = some (f x) := by simp
theorem w5 {α : Type} (l : List α) : l = [] ∨ ∃ p q, l = p ++ [q] := by
 rcases List.eq_nil_or_concat l with h | ⟨p, q, h⟩
 · exact .inl h
 · exact .inr ⟨p, q, by rw [h, List.concat_eq_append]⟩
end Go.Proofs.YtijninlbpifonaaGreatDoor

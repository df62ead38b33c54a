/- Joined: K1 K2 K3 K4 K5 K6 V3 K7 K8 V4. Conditions: those of each lemma. -/
import Derived.Test.YtonbkdklidfmfaaGreatDoorjJ
import Derived.Test.YtonbkdklidfmfaaGreatDoorjI
set_option linter.unusedVariables false
set_option linter.unusedSimpArgs false
namespace Go.Proofs.YtonbkdklidfmfaaGreatDoor
open E
set_option linter.unusedSimpArgs false
set_option linter.unusedVariables false
set_option maxRecDepth 100000
theorem a7 : ∀ p s : Str, (decide ((s.length : Int) ≥ (p.length : Int)) && (s.take p.length == p)) = p.isPrefixOf s
 | [], s => by
  have : decide ((s.length : Int) ≥ (([] : Str).length : Int)) = true := by simp
  rw [this]; simp [List.isPrefixOf]
 | a :: p, [] => by
  have : decide ((([] : Str).length : Int) ≥ ((a :: p).length : Int)) = false := by simp only [decide_eq_false_iff_not, List.length_cons, List.length_nil]; omega
  rw [this]; simp [List.isPrefixOf]
 | a :: p, b :: s => by
  have ih := a7 p s
  have e1 : decide (((b :: s).length : Int) ≥ ((a :: p).length : Int)) = decide ((s.length : Int) ≥ (p.length : Int)) := by
   rw [decide_eq_decide]; simp only [List.length_cons]; omega
  rw [e1, List.isPrefixOf, ← ih, List.length_cons, List.take_succ_cons]
  by_cases h : b = a
  · subst h
    have : (b :: List.take p.length s == b :: p) = (List.take p.length s == p) := by rw [Bool.eq_iff_iff]; simp
    rw [this]; simp
  · have h2 : (b :: List.take p.length s == a :: p) = false := by rw [beq_eq_false_iff_ne]; intro e; injection e with e1 e2; exact h e1
    have h3 : (a == b) = false := by rw [beq_eq_false_iff_ne]; exact fun e => h e.symm
    rw [h2, h3]; simp
theorem jv (s p : Str) (hs : s.length ≤ 9223372036854775807) (hp : p.length ≤ 9223372036854775807) : zm (EV Tryz.prog pol) 182 [.t (.str s), .t (.str p)] = some (.t (.bool (p.isPrefixOf s))) := by
 rw [← a7]
 apply zu
 refine zw rfl Tryz.func182 rfl (by kernel_rfl) ?_
 unfold Tryz.f182
 cases h : decide ((s.length : Int) ≥ (p.length : Int)) with
 | false => simp (disch := ((try simp only [LL]); omega)) only [↓GO, ↓DRW, GA, GX, ren, zo, za, refs, z8, cst, zr, isC, bin, una, z7, zd, blt, asArg, zg, zc, zf, z6, E.mkS, unN, ze, zq, zb, GS, simprocAttr, GZ, h]
 | true =>
  have h2 := of_decide_eq_true h
  simp (disch := ((try simp only [LL]); omega)) only [↓GO, ↓DRW, GA, GX, ren, zo, za, refs, z8, cst, zr, isC, bin, una, z7, zd, blt, asArg, zg, zc, zf, z6, E.mkS, unN, ze, zq, zb, GS, simprocAttr, GZ, h]
theorem WR (s p : Str) (hs : s.length ≤ 9223372036854775807) (hp : p.length ≤ 9223372036854775807) : zm (EV Tryz.prog pol) 151 [.t (.str s), .t (.str p)] = some (.t (.bool (p.isPrefixOf s))) := by
 have h := jv s p hs hp
 apply zu
 refine zw rfl Tryz.func151 rfl (by kernel_rfl) ?_
 unfold Tryz.f151
 simp (disch := ((try simp only [LL]); omega)) only [↓GO, ↓DRW, GA, GX, ren, zo, za, refs, z8, cst, zr, isC, bin, una, z7, zd, blt, asArg, zg, zc, zf, z6, E.mkS, unN, ze, zq, zb, GS, simprocAttr, GZ, h]
theorem fJ : ∀ {p s : Str}, p.isPrefixOf s = true → p.length ≤ s.length
 | [], s, _ => by simp
 | a :: p, [], h => by simp [List.isPrefixOf] at h
 | a :: p, b :: s, h => by
  simp only [List.isPrefixOf, Bool.and_eq_true] at h
  have := fJ h.2
  simp only [List.length_cons]; omega
theorem cq (s p : Str) (hs : s.length ≤ 9223372036854775807) (hp : p.length ≤ 9223372036854775807) : zm (EV Tryz.prog pol) 184 [.t (.str s), .t (.str p)] = some (.t (.str (cond (p.isPrefixOf s) (s.drop p.length) s))) := by
 have h := jv s p hs hp
 apply zu
 refine zw rfl Tryz.func184 rfl (by kernel_rfl) ?_
 unfold Tryz.f184
 cases hb : p.isPrefixOf s with
 | false => rw [hb] at h; simp (disch := ((try simp only [LL]); omega)) only [↓GO, ↓DRW, GA, GX, ren, zo, za, refs, z8, cst, zr, isC, bin, una, z7, zd, blt, asArg, zg, zc, zf, z6, E.mkS, unN, ze, zq, zb, GS, simprocAttr, GZ, h]
 | true =>
  have h2 := fJ hb
  rw [hb] at h; simp (disch := ((try simp only [LL]); omega)) only [↓GO, ↓DRW, GA, GX, ren, zo, za, refs, z8, cst, zr, isC, bin, una, z7, zd, blt, asArg, zg, zc, zf, z6, E.mkS, unN, ze, zq, zb, GS, simprocAttr, GZ, h]
theorem Yw (s p : Str) (hs : s.length ≤ 9223372036854775807) (hp : p.length ≤ 9223372036854775807) : zm (EV Tryz.prog pol) 153 [.t (.str s), .t (.str p)] = some (.t (.str (cond (p.isPrefixOf s) (s.drop p.length) s))) := by
 have h := cq s p hs hp
 apply zu
 refine zw rfl Tryz.func153 rfl (by kernel_rfl) ?_
 unfold Tryz.f153
 simp (disch := ((try simp only [LL]); omega)) only [↓GO, ↓DRW, GA, GX, ren, zo, za, refs, z8, cst, zr, isC, bin, una, z7, zd, blt, asArg, zg, zc, zf, z6, E.mkS, unN, ze, zq, zb, GS, simprocAttr, GZ, h]
theorem Ta (s : Str) : cond (([64] : Str).isPrefixOf s) (s.drop ([64] : Str).length) s = xh s := by
 cases s with
 | nil => rfl
 | cons x s =>
  by_cases h : x = 64
  · subst h; simp [List.isPrefixOf, xh]
  · have : (64 == x) = false := by rw [beq_eq_false_iff_ne]; exact fun e => h e.symm
    simp [List.isPrefixOf, xh, h, this]
theorem Sh (b : UInt8) : zm (EV Tryz.prog pol) 155 [.t (.int .u8 (b.toNat : Int))] = some (.t (.bool (uz b))) := by
 have h1 := ju (b.toNat : Int)
 have h2 := ot (b.toNat : Int)
 apply zu
 refine zw rfl Tryz.func155 rfl (by kernel_rfl) ?_
 unfold Tryz.f155
 simp only [uz, nb]
 generalize hx : B2 (b.toNat : Int) 97 122 = x1 at *
 generalize hy : B2 (b.toNat : Int) 48 57 = x2 at *
 repeat' (first | (((first | with_reducible refine sb (fun hA => ?_) (fun hA => ?_) | with_reducible refine sa (fun hA => ?_) (fun hA => ?_)) <;> (try simp only [bne, Bool.not_eq_true', Bool.not_eq_false'] at hA) <;> (first | (have hP := Int.le_of_eq (eq_of_beq (α := Int) hA); have hQ := Int.le_of_eq (eq_of_beq (α := Int) hA).symm) | have hP := of_decide_eq_true hA | have hP := of_decide_eq_false hA | skip)) <;> (simp (disch := ((try simp only [LL]); omega)) only [↓GO, ↓DRW, GA, GX, ren, zo, za, refs, z8, cst, zr, isC, bin, una, z7, zd, blt, asArg, zg, zc, zf, z6, E.mkS, unN, ze, zq, zb, GS, simprocAttr, zn, bne, *])) | (simp (disch := ((try simp only [LL]); omega)) only [↓GO, ↓DRW, GA, GX, ren, zo, za, refs, z8, cst, zr, isC, bin, una, z7, zd, blt, asArg, zg, zc, zf, z6, E.mkS, unN, ze, zq, zb, GS, simprocAttr, zn, bne, *]))
theorem nS (b : UInt8) (s : Str) : ly s [b] = x7 b s := by
 rw [← ki]
 unfold ly Lib.split Lib.countB
 rw [Lib.splitB_data]
theorem vW (x : Str) (l : List Str) : strs (x :: l) = [.str x] :: strs l := rfl
theorem qX (a b : List Str) : strs (a ++ b) = strs a ++ strs b := by simp [strs]
theorem yp : strs [] = [] := rfl
/-- a place in a list of texts, told by what stands ahead of it -/
theorem wR (pre : List Str) (x : Str) (rest : List Str) : (strs (pre ++ x :: rest))[pre.length]? = some [.str x] := by
 rw [qX, vW]
 have := sd (strs pre) [T.str x] (strs rest)
 rwa [zi] at this
theorem aH (s : Str) (sc : Bool) (parts : List Str) (hl : parts.length ≤ 4294967296) (hb : ∀ p ∈ parts, p.length ≤ 4294967296) : ∀ (rest pre : List Str), parts = pre ++ rest →
 EV Tryz.prog pol (.loop 123 58 0 [.t (.str s), .t (.bool sc), .t (.list 1 (strs parts)), .t (.int .i64 (parts.length : Int)), .t (.int .i64 (pre.length : Int))] []) = some (cond (uq (sc && ((pre.length : Int) == 0)) rest) (.loop (.exit 0) [.t (.str s), .bad] []) (.loop .ret [.t (.str s), .t (.bool false)] []))
 | [], pre, hs => by
  have c : decide ((pre.length : Int) < (parts.length : Int)) = false := by simp [hs]
  refine zk Tryz.func123 rfl rfl ?_
  simp only [↓GO, ↓DRW, GA, GX, ren, zo, za, refs, z8, cst, zr, isC, bin, una, z7, zd, blt, asArg, zg, zc, zf, z6, E.mkS, unN, ze, zq, zb, GS, simprocAttr, c, uq]
 | x :: rest, pre, hs => by
  have c : decide ((pre.length : Int) < (parts.length : Int)) = true := by simp [hs]; omega
  have hget : (strs parts)[pre.length]? = some [.str x] := by rw [hs]; exact wR pre x rest
  have hlen : pre.length + rest.length + 1 ≤ parts.length := by rw [hs]; simp; omega
  have hx : x.length ≤ 4294967296 := hb x (by rw [hs]; simp)
  have IH := aH s sc parts hl hb rest (pre ++ [x]) (by rw [hs]; simp)
  have hc := ZR 155 uz Sh x (by omega)
  rw [show ((pre ++ [x]).length : Int) = (pre.length : Int) + 1 by simp] at IH
  have e0 : (((pre.length : Int) + 1 == 0)) = false := by rw [beq_eq_false_iff_ne]; omega
  rw [e0, Bool.and_false] at IH
  clear hs hb
  refine zk Tryz.func123 rfl rfl ?_
  rw [uq]
  have hN : (x == rK) = (x == [110, 111, 100, 101, 95, 109, 111, 100, 117, 108, 101, 115]) := rfl
  rw [hN]
  cases ha : x.all uz <;> rw [ha] at hc <;> cases h1 : (x == []) <;> cases h2 : (x == [110, 111, 100, 101, 95, 109, 111, 100, 117, 108, 101, 115]) <;> cases sc <;> cases h3 : ((pre.length : Int) == 0) <;>
   simp (disch := ((try simp only [LL]); omega)) only [↓GO, ↓DRW, GA, GX, ren, zo, za, refs, z8, cst, zr, isC, bin, una, z7, zd, blt, asArg, zg, zc, zf, z6, E.mkS, unN, ze, zq, zb, GS, simprocAttr, GZ, c, hget, zn, hc, h1, h2, h3, IH, zi]
theorem Sg (s : Str) (hl : s.length ≤ 1048576) : zm (EV Tryz.prog pol) 123 [.t (.str s)] = some (.t (.bool (sS s))) := by
 have h1 := WR s [64] (by omega) (by simp)
 have h2 := Yw s [64] (by omega) (by simp)
 rw [Ta] at h2
 have ht : (xh s).length ≤ s.length := by
  unfold xh; split
  · simp
  · split
    · simp
    · simp
 have hbk := vm 47 (xh s)
 have h3 := iO (xh s) [47] (by omega) (by simp)
 rw [nS] at h3
 have IH := aH s (np s) (x7 47 (xh s)) (by omega) (fun p hp => by have := uk hp; omega) _ [] rfl
 rw [show (([64] : Str).isPrefixOf s) = np s from rfl] at h1
 simp only [List.length_nil, Int.natCast_zero, show ((0 : Int) == 0) = true from rfl, Bool.and_true] at IH
 apply zu
 refine zw rfl Tryz.func123 rfl (by kernel_rfl) ?_
 unfold Tryz.f123
 unfold sS
 cases hp : uq (np s) (x7 47 (xh s)) <;> rw [hp] at IH <;> simp only [cond_true, cond_false] at IH <;>
  simp (disch := ((try simp only [LL]); omega)) only [↓GO, ↓DRW, GA, GX, ren, zo, za, refs, z8, cst, zr, isC, bin, una, z7, zd, blt, asArg, zg, zc, zf, z6, E.mkS, unN, ze, zq, zb, GS, simprocAttr, GZ, h1, h2, h3, zi, IH]
theorem br (s : Str) (b : UInt8) (hl : s.length ≤ 4294967296) : ∀ (rest cur pre : Str) (out : List Str) (cap : Option Nat) (m : Nat), s = pre ++ (cur ++ rest) → m = pre.length + cur.length → out.length ≤ m →
 ∃ (out' : List Str) (fr : Nat) (cap' : Option Nat), out'.length ≤ s.length ∧ fr ≤ s.length ∧ out' ++ [s.drop fr] = out ++ (match x7 b rest with | p :: r => (cur ++ p) :: r | [] => []) ∧
  EV Tryz.prog pol (.loop 148 122 0 [.t (.str s), .t (.int .u8 (b.toNat : Int)), .sl 0 0 out.length cap, .t (.int .i64 (pre.length : Int)), .t (.int .i64 (m : Int))] [.ts 1 (strs out)]) = some (.loop (.exit 0) [.t (.str s), .sl 0 0 out'.length cap', .t (.int .i64 (fr : Int))] [.ts 1 (strs out')])
 | [], cur, pre, out, cap, m, hs, hm, ho => by
  have c : decide ((m : Int) < (s.length : Int)) = false := by simp [hs]; omega
  have hn : s.length = pre.length + cur.length := by rw [hs]; simp
  refine ⟨out, pre.length, cap, by omega, by omega, ?_, ?_⟩
  · simp only [x7, hs, List.append_nil, List.drop_left]
  · refine zk Tryz.func148 rfl rfl ?_
    simp only [↓GO, ↓DRW, GA, GX, ren, zo, za, refs, z8, cst, zr, isC, bin, una, z7, zd, blt, asArg, zg, zc, zf, z6, E.mkS, unN, ze, zq, zb, GS, simprocAttr, c]
 | x :: rest, cur, pre, out, cap, m, hs, hm, ho => by
  have hn : s.length = pre.length + cur.length + rest.length + 1 := by rw [hs]; simp; omega
  have c : decide ((m : Int) < (s.length : Int)) = true := by simp only [decide_eq_true_eq]; omega
  have hget : s[m]? = some x := by
   rw [hs, hm, ← List.append_assoc, ← List.length_append]; exact sd (pre ++ cur) x rest
  by_cases hx : x = b
  · subst hx
    have hcut : (s.drop pre.length).take (m - pre.length) = cur := by
     rw [hs, hm, List.drop_left, show pre.length + cur.length - pre.length = cur.length by omega, List.take_left]
    obtain ⟨out', fr, cap', q1, q2, q3, q4⟩ := br s x hl rest [] (pre ++ cur ++ [x]) (out ++ [cur]) none (m + 1) (by rw [hs]; simp) (by simp; omega) (by simp; omega)
    refine ⟨out', fr, cap', q1, q2, ?_, ?_⟩
    · rw [q3, uj]
      cases hc : x7 x rest with
      | nil => exact absurd hc (rF x rest)
      | cons p r => simp
    · rw [show ((pre ++ cur ++ [x]).length : Int) = (m : Int) + 1 by simp; omega, show ((m + 1 : Nat) : Int) = (m : Int) + 1 by omega] at q4
      rw [qX, vW, yp, List.length_append, List.length_cons, List.length_nil, Nat.zero_add] at q4
      have hol : out.length ≤ 4294967296 := by omega
      clear hs q3
      refine zk Tryz.func148 rfl rfl ?_
      simp (disch := ((try simp only [LL]); omega)) only [↓GO, ↓DRW, GA, GX, ren, zo, za, refs, z8, cst, zr, isC, bin, una, z7, zd, blt, asArg, zg, zc, zf, z6, E.mkS, unN, ze, zq, zb, GS, simprocAttr, GZ, c, hget, zn, hcut, q4, zi, xb]
  · have c2 : ((x.toNat : Int) == (b.toNat : Int)) = false := by
     rw [beq_eq_false_iff_ne]; intro e; exact hx (UInt8.toNat_inj.1 (by omega))
    obtain ⟨out', fr, cap', q1, q2, q3, q4⟩ := br s b hl rest (cur ++ [x]) pre out cap (m + 1) (by rw [hs]; simp) (by simp; omega) (by omega)
    refine ⟨out', fr, cap', q1, q2, ?_, ?_⟩
    · rw [q3]
      cases hc : x7 b rest with
      | nil => exact absurd hc (rF b rest)
      | cons p r => rw [wM b x rest p r hx hc]; simp
    · rw [show ((m + 1 : Nat) : Int) = (m : Int) + 1 by omega] at q4
      clear hs q3
      refine zk Tryz.func148 rfl rfl ?_
      simp (disch := ((try simp only [LL]); omega)) only [↓GO, ↓DRW, GA, GX, ren, zo, za, refs, z8, cst, zr, isC, bin, una, z7, zd, blt, asArg, zg, zc, zf, z6, E.mkS, unN, ze, zq, zb, GS, simprocAttr, GZ, c, hget, zn, c2, q4, zi, xb]
theorem bG (s : Str) (b : UInt8) (hl : s.length ≤ 4194304) : zm (EV Tryz.prog pol) 148 [.t (.str s), .t (.int .u8 (b.toNat : Int))] = some (.t (.list 1 (strs (x7 b s)))) := by
 obtain ⟨out, fr, cap, q1, q2, q3, q4⟩ := br s b (by omega) s [] [] [] (some 0) 0 rfl rfl (by simp)
 simp only [List.nil_append, List.length_nil, Int.natCast_zero, yp] at q4 q3
 have e : (match x7 b s with | p :: r => p :: r | [] => []) = x7 b s := by cases x7 b s <;> rfl
 rw [e] at q3
 have ho : (strs out ++ [[.str (List.drop fr s)]]) = strs (x7 b s) := by rw [← q3, qX]; rfl
 have ht : List.take (out.length + 1) (strs (x7 b s)) = strs (x7 b s) := List.take_of_length_le (by rw [zi, ← q3]; simp)
 apply zu
 refine zw rfl Tryz.func148 rfl (by kernel_rfl) ?_
 unfold Tryz.f148
 simp (disch := ((try simp only [LL]); omega)) only [↓GO, ↓DRW, GA, GX, ren, zo, za, refs, z8, cst, zr, isC, bin, una, z7, zd, blt, asArg, zg, zc, zf, z6, E.mkS, unN, ze, zq, zb, GS, simprocAttr, GZ, q4, zi, xb, ho, ht]
theorem sK (s : Str) (P : T) (i : T) (p : Str) (hl : p.length ≤ 4294967296) : ∀ (rest pre : Str), p = pre ++ rest →
 EV Tryz.prog pol (.loop 120 59706 0 [.t (.str s), .t P, .t i, .t (.str p), .t (.int .i64 (pre.length : Int))] []) = some (cond (rest.all uz) (.loop (.exit 2) [.t (.str s), .bad, .t P, .t i, .t (.str p)] []) (.loop .ret [.t (.str s), .t (.bool false), .t P, .t i, .t (.str p)] []))
 | [], pre, hs => by
  have c : decide ((pre.length : Int) < (p.length : Int)) = false := by simp [hs]
  refine zk Tryz.func120 rfl rfl ?_
  simp only [↓GO, ↓DRW, GA, GX, ren, zo, za, refs, z8, cst, zr, isC, bin, una, z7, zd, blt, asArg, zg, zc, zf, z6, E.mkS, unN, ze, zq, zb, GS, simprocAttr, c]
 | b :: rest, pre, hs => by
  have c : decide ((pre.length : Int) < (p.length : Int)) = true := by simp [hs]; omega
  have hget : p[pre.length]? = some b := by rw [hs]; exact sd pre b rest
  have hlen : p.length = pre.length + rest.length + 1 := by rw [hs]; simp; omega
  have IH := sK s P i p hl rest (pre ++ [b]) (by rw [hs]; simp)
  rw [show ((pre ++ [b]).length : Int) = (pre.length : Int) + 1 by simp] at IH
  have hb := ni b
  clear hs
  refine zk Tryz.func120 rfl rfl ?_
  rw [List.all_cons, uz]
  simp only [nb] at *
  cases h1 : (B2 (b.toNat : Int) 97 122 || B2 (b.toNat : Int) 48 57) <;> rw [h1] at hb <;> cases h2 : ((b.toNat : Int) == 46) <;> cases h3 : ((b.toNat : Int) == 95) <;> cases h4 : ((b.toNat : Int) == 45) <;>
   simp (disch := ((try simp only [LL]); omega)) only [↓GO, ↓DRW, GA, GX, ren, zo, za, refs, z8, cst, zr, isC, bin, una, z7, zd, blt, asArg, zg, zc, zf, z6, E.mkS, unN, ze, zq, zb, GS, simprocAttr, GZ, c, hget, zn, hb, h2, h3, h4, bne, IH]
theorem aG (s : Str) (parts : List Str) (hl : parts.length ≤ 4294967296) (hb : ∀ p ∈ parts, p.length ≤ 4294967296) : ∀ (rest pre : List Str), parts = pre ++ rest → pre ≠ [] →
 EV Tryz.prog pol (.loop 120 58 0 [.t (.str s), .t (.list 1 (strs parts)), .t (.int .i64 (pre.length : Int))] []) = some (cond (lE rest) (.loop (.exit 0) [.t (.str s), .bad] []) (.loop .ret [.t (.str s), .t (.bool false)] []))
 | [], pre, hs, _ => by
  have c : decide ((pre.length : Int) < (parts.length : Int)) = false := by simp [hs]
  refine zk Tryz.func120 rfl rfl ?_
  simp only [↓GO, ↓DRW, GA, GX, ren, zo, za, refs, z8, cst, zr, isC, bin, una, z7, zd, blt, asArg, zg, zc, zf, z6, E.mkS, unN, ze, zq, zb, GS, simprocAttr, zi, c, lE]
 | x :: rest, pre, hs, hn => by
  have c : decide ((pre.length : Int) < (parts.length : Int)) = true := by simp [hs]; omega
  have hget : (strs parts)[pre.length]? = some [.str x] := by rw [hs]; exact wR pre x rest
  have hlen : pre.length + rest.length + 1 ≤ parts.length := by rw [hs]; simp; omega
  have hx : x.length ≤ 4294967296 := hb x (by rw [hs]; simp)
  have IH := aG s parts hl hb rest (pre ++ [x]) (by rw [hs]; simp) (by simp)
  have hin := sK s (.list 1 (strs parts)) (.int .i64 (pre.length : Int)) x hx x [] rfl
  simp only [List.length_nil, Int.natCast_zero] at hin
  rw [show ((pre ++ [x]).length : Int) = (pre.length : Int) + 1 by simp] at IH
  have e0 : (((pre.length : Int) == 0)) = false := by
   rw [beq_eq_false_iff_ne]; intro h; apply hn; apply List.eq_nil_of_length_eq_zero; omega
  clear hs hb
  refine zk Tryz.func120 rfl rfl ?_
  rw [lE]
  have hN : (x == rK) = (x == [110, 111, 100, 101, 95, 109, 111, 100, 117, 108, 101, 115]) := rfl
  rw [hN]
  cases ha : x.all uz <;> rw [ha] at hin <;> simp only [cond_true, cond_false] at hin <;> cases h1 : (x == []) <;> cases h2 : (x == [110, 111, 100, 101, 95, 109, 111, 100, 117, 108, 101, 115]) <;>
   simp (disch := ((try simp only [LL]); omega)) only [↓GO, ↓DRW, GA, GX, ren, zo, za, refs, z8, cst, zr, isC, bin, una, z7, zd, blt, asArg, zg, zc, zf, z6, E.mkS, unN, ze, zq, zb, GS, simprocAttr, GZ, c, hget, zn, hin, h1, h2, e0, IH, zi]
theorem TK (s : Str) (parts : List Str) (hl : parts.length ≤ 4294967296) (hb : ∀ p ∈ parts, p.length ≤ 4294967296) (x : Str) (rest : List Str) (hs : parts = x :: rest) :
 EV Tryz.prog pol (.loop 120 58 0 [.t (.str s), .t (.list 1 (strs parts)), .t (.int .i64 0)] []) = some (cond (qK (x :: rest)) (.loop (.exit 0) [.t (.str s), .bad] []) (.loop .ret [.t (.str s), .t (.bool false)] [])) := by
 have c : decide ((0 : Int) < (parts.length : Int)) = true := by simp only [decide_eq_true_eq, hs, List.length_cons]; omega
 have hget : (strs parts)[0]? = some [.str x] := by rw [hs]; rfl
 have hx : x.length ≤ 4294967296 := hb x (by rw [hs]; simp)
 have IH := aG s parts hl hb rest [x] hs (by simp)
 simp only [List.length_nil, List.length_cons, Nat.zero_add, Int.natCast_one] at IH
 have hN : (x == rK) = (x == [110, 111, 100, 101, 95, 109, 111, 100, 117, 108, 101, 115]) := rfl
 rw [qK, hN]
 clear hs hb hN
 cases x with
 | nil =>
  have hin := sK s (.list 1 (strs parts)) (.int .i64 0) [] hx [] [] rfl
  simp only [List.length_nil, Int.natCast_zero, List.all_nil, cond_true] at hin
  have h2 : (([] : Str) == [110, 111, 100, 101, 95, 109, 111, 100, 117, 108, 101, 115]) = false := rfl
  have h3 : (([] : Str) == []) = true := rfl
  have h4 : xh [] = [] := rfl
  refine zk Tryz.func120 rfl rfl ?_
  simp (disch := ((try simp only [LL]); omega)) only [↓GO, ↓DRW, GA, GX, ren, zo, za, refs, z8, cst, zr, isC, bin, una, z7, zd, blt, asArg, zg, zc, zf, z6, E.mkS, unN, ze, zq, zb, GS, simprocAttr, GZ, c, hget, zn, hin, zi, h2, h3, h4, Int.natCast_zero]
 | cons y t =>
  have hlt : decide (((y :: t).length : Int) > 0) = true := by simp only [decide_eq_true_eq, List.length_cons]; omega
  have hg0 : (y :: t)[0]? = some y := rfl
  have hyl : 1 ≤ (y :: t).length := by simp
  by_cases h64 : y = 64
  · subst h64
    have hin2 := sK s (.list 1 (strs parts)) (.int .i64 0) t (by simp only [List.length_cons] at hx; omega) t [] rfl
    simp only [List.length_nil, Int.natCast_zero] at hin2
    have e1 : (((64 : UInt8) :: t) == [110, 111, 100, 101, 95, 109, 111, 100, 117, 108, 101, 115]) = false := by simp
    have e2 : xh (64 :: t) = t := by simp [xh]
    have e3 : (((64 : UInt8)).toNat : Int) = 64 := rfl
    have hd : List.drop 1 ((64 : UInt8) :: t) = t := rfl
    rw [e2]
    generalize hy : (64 : UInt8) :: t = yy at *
    cases ha : t.all uz <;> rw [ha] at hin2 <;> simp only [cond_true, cond_false] at hin2 <;> cases h1 : (t == []) <;>
     refine zk Tryz.func120 rfl rfl ?_ <;> simp (disch := ((try simp only [LL]); omega)) only [↓GO, ↓DRW, GA, GX, ren, zo, za, refs, z8, cst, zr, isC, bin, una, z7, zd, blt, asArg, zg, zc, zf, z6, E.mkS, unN, ze, zq, zb, GS, simprocAttr, GZ, c, hget, zn, hin2, zi, e1, e3, hlt, hg0, hd, h1, IH, Int.zero_add]
  · have e2 : xh (y :: t) = y :: t := by simp [xh, h64]
    have e3 : ((y.toNat : Int) == 64) = false := by
     rw [beq_eq_false_iff_ne]; intro h; exact h64 (UInt8.toNat_inj.1 (by rw [show (64 : UInt8).toNat = 64 from rfl]; omega))
    have hin := sK s (.list 1 (strs parts)) (.int .i64 0) (y :: t) hx (y :: t) [] rfl
    simp only [List.length_nil, Int.natCast_zero] at hin
    rw [e2]
    have h1 : ((y :: t) == []) = false := rfl
    generalize hy : y :: t = yy at *
    cases ha : yy.all uz <;> rw [ha] at hin <;> simp only [cond_true, cond_false] at hin <;> cases h2 : (yy == [110, 111, 100, 101, 95, 109, 111, 100, 117, 108, 101, 115]) <;>
     refine zk Tryz.func120 rfl rfl ?_ <;> simp (disch := ((try simp only [LL]); omega)) only [↓GO, ↓DRW, GA, GX, ren, zo, za, refs, z8, cst, zr, isC, bin, una, z7, zd, blt, asArg, zg, zc, zf, z6, E.mkS, unN, ze, zq, zb, GS, simprocAttr, GZ, c, hget, zn, hin, zi, e3, hlt, hg0, h1, h2, IH, Int.zero_add]
theorem Sf (s : Str) (hl : s.length ≤ 1048576) : zm (EV Tryz.prog pol) 120 [.t (.str s)] = some (.t (.bool (sS s))) := by
 have hbk := vm 47 s
 have h3 := bG s 47 (by omega)
 rw [show (((47 : UInt8)).toNat : Int) = 47 from rfl] at h3
 rw [← Yf]
 cases hc : x7 47 s with
 | nil => exact absurd hc (rF 47 s)
 | cons x rest =>
  rw [hc] at h3 hbk
  have hb : ∀ p ∈ x :: rest, p.length ≤ 4294967296 := fun p hp => by have := uk hp; omega
  have LP := TK s (x :: rest) (by omega) hb x rest rfl
  generalize x :: rest = parts at *
  apply zu
  refine zw rfl Tryz.func120 rfl (by kernel_rfl) ?_
  unfold Tryz.f120
  cases hp : qK parts <;> rw [hp] at LP <;> simp only [cond_true, cond_false] at LP <;>
   simp (disch := ((try simp only [LL]); omega)) only [↓GO, ↓DRW, GA, GX, ren, zo, za, refs, z8, cst, zr, isC, bin, una, z7, zd, blt, asArg, zg, zc, zf, z6, E.mkS, unN, ze, zq, zb, GS, simprocAttr, GZ, h3, LP]
theorem WH (b : UInt8) : zm (EV Tryz.prog pol) 160 [.t (.int .u8 (b.toNat : Int))] = some (.t (.bool (qJ b))) := by
 apply zu
 refine zw rfl Tryz.func160 rfl (by kernel_rfl) ?_
 unfold Tryz.f160
 unfold qJ B2
 simp only [nb]
 cases h1 : decide ((33 : Int) ≤ (b.toNat : Int)) <;> cases h2 : decide ((b.toNat : Int) ≤ 126) <;> cases h3 : ((b.toNat : Int) == 34) <;> cases h4 : ((b.toNat : Int) == 39) <;> cases h5 : ((b.toNat : Int) == 44) <;>
  simp (disch := ((try simp only [LL]); omega)) only [↓GO, ↓DRW, GA, GX, ren, zo, za, refs, z8, cst, zr, isC, bin, una, z7, zd, blt, asArg, zg, zc, zf, z6, E.mkS, unN, ze, zq, zb, GS, simprocAttr, GZ, h1, h2, h3, h4, h5, bne, ge_iff_le]
theorem WG (s : Str) (hl : s.length ≤ 1048576) : zm (EV Tryz.prog pol) 125 [.t (.str s)] = some (.t (.bool (tY s))) := by
 have h := ZR 160 qJ WH s (by omega)
 apply zu
 refine zw rfl Tryz.func125 rfl (by kernel_rfl) ?_
 unfold Tryz.f125
 unfold tY
 cases h1 : decide ((s.length : Int) ≤ 100) <;> simp (disch := ((try simp only [LL]); omega)) only [↓GO, ↓DRW, GA, GX, ren, zo, za, refs, z8, cst, zr, isC, bin, una, z7, zd, blt, asArg, zg, zc, zf, z6, E.mkS, unN, ze, zq, zb, GS, simprocAttr, GZ, h, h1]
theorem er (s : Str) (hl : s.length ≤ 1048576) : ∀ (rest pre : Str), s = pre ++ rest →
 EV Tryz.prog pol (.loop 122 26 0 [.t (.str s), .t (.int .i64 (pre.length : Int))] []) = some (cond (rest.all qJ) (.loop (.exit 0) [.t (.str s), .bad] []) (.loop .ret [.t (.str s), .t (.bool false)] []))
 | [], pre, hs => by
  have c : decide ((pre.length : Int) < (s.length : Int)) = false := by simp [hs]
  refine zk Tryz.func122 rfl rfl ?_
  simp only [↓GO, ↓DRW, GA, GX, ren, zo, za, refs, z8, cst, zr, isC, bin, una, z7, zd, blt, asArg, zg, zc, zf, z6, E.mkS, unN, ze, zq, zb, GS, simprocAttr, c]
 | b :: rest, pre, hs => by
  have c : decide ((pre.length : Int) < (s.length : Int)) = true := by simp [hs]; omega
  have hget : s[pre.length]? = some b := by rw [hs]; exact sd pre b rest
  have hlen : s.length = pre.length + rest.length + 1 := by rw [hs]; simp; omega
  have IH := er s hl rest (pre ++ [b]) (by rw [hs]; simp)
  rw [show ((pre ++ [b]).length : Int) = (pre.length : Int) + 1 by simp] at IH
  have hb := wk (b.toNat : Int) 33 126
  clear hs
  refine zk Tryz.func122 rfl rfl ?_
  rw [List.all_cons, qJ]
  simp only [nb]
  cases h1 : B2 (b.toNat : Int) 33 126 <;> rw [h1] at hb <;> cases h3 : ((b.toNat : Int) == 34) <;> cases h4 : ((b.toNat : Int) == 39) <;> cases h5 : ((b.toNat : Int) == 44) <;> cases h6 : ((b.toNat : Int) == 92) <;>
   simp (disch := ((try simp only [LL]); omega)) only [↓GO, ↓DRW, GA, GX, ren, zo, za, refs, z8, cst, zr, isC, bin, una, z7, zd, blt, asArg, zg, zc, zf, z6, E.mkS, unN, ze, zq, zb, GS, simprocAttr, GZ, c, hget, zn, conv, wrap_u8, hb, h3, h4, h5, h6, bne, IH]
theorem WE (s : Str) (hl : s.length ≤ 1048576) : zm (EV Tryz.prog pol) 122 [.t (.str s)] = some (.t (.bool (tY s))) := by
 have IH := er s hl s [] rfl
 simp only [List.length_nil, Int.natCast_zero] at IH
 apply zu
 refine zw rfl Tryz.func122 rfl (by kernel_rfl) ?_
 unfold Tryz.f122
 unfold tY
 cases ha : s.all qJ <;> rw [ha] at IH <;> simp only [cond_true, cond_false] at IH
 · simp (disch := ((try simp only [LL]); omega)) only [↓GO, ↓DRW, GA, GX, ren, zo, za, refs, z8, cst, zr, isC, bin, una, z7, zd, blt, asArg, zg, zc, zf, z6, E.mkS, unN, ze, zq, zb, GS, simprocAttr, GZ, IH]
 · cases h1 : decide ((s.length : Int) ≤ 100) with
   | false => simp (disch := ((try simp only [LL]); omega)) only [↓GO, ↓DRW, GA, GX, ren, zo, za, refs, z8, cst, zr, isC, bin, una, z7, zd, blt, asArg, zg, zc, zf, z6, E.mkS, unN, ze, zq, zb, GS, simprocAttr, GZ, IH, h1]
   | true =>
    have h2 := of_decide_eq_true h1
    have h3 : decide ((s.length : Int) < 20000) = true := by simp only [decide_eq_true_eq]; omega
    simp (disch := ((try simp only [LL]); omega)) only [↓GO, ↓DRW, GA, GX, ren, zo, za, refs, z8, cst, zr, isC, bin, una, z7, zd, blt, asArg, zg, zc, zf, z6, E.mkS, unN, ze, zq, zb, GS, simprocAttr, GZ, IH, h1, h3]
end Go.Proofs.YtonbkdklidfmfaaGreatDoor
/- Versions, by both. Conditions: those of each lemma. -/
namespace Go.Proofs.YtonbkdklidfmfaaGreatDoor
open E
set_option linter.unusedSimpArgs false
set_option linter.unusedVariables false
set_option maxRecDepth 100000
theorem SP (n : Int) : B2 n 0 999999999 = n9 n := rfl
/-- a version of bounded size -/
def Ver.sm (v : Ver) : Prop := v.pre.length + ya v.pre ≤ 2097152
theorem nF {α : Type} [BEq α] (l : List α) : ((l.length : Int) == 0) = (l == []) := by
 cases l with
 | nil => rfl
 | cons x l =>
  have h1 : ((x :: l) == []) = false := rfl
  have h2 : (((x :: l).length : Int) == 0) = false := by rw [beq_eq_false_iff_ne]; simp only [List.length_cons]; omega
  rw [h1, h2]
theorem bA {α : Type} [BEq α] (l : List α) : decide ((l.length : Int) > 0) = !(l == []) := by
 cases l with
 | nil => rfl
 | cons x l =>
  have h1 : ((x :: l) == []) = false := rfl
  have h2 : decide (((x :: l).length : Int) > 0) = true := by simp only [decide_eq_true_eq, List.length_cons]; omega
  rw [h1, h2]; rfl
theorem UC (b : UInt8) : B2 (b.toNat : Int) 48 57 = isD b := bz b
theorem ct (a : Int) : zm (EV Tryz.prog pol) 219 [.t (.int .u8 a)] = some (.t (.bool (B2 a 97 122 || B2 a 65 90))) := by
 have h1 := ju a
 apply zu
 refine zw rfl Tryz.func219 rfl (by kernel_rfl) ?_
 unfold Tryz.f219
 cases h2 : B2 a 97 122 <;> rw [h2] at h1
 · unfold B2
   cases h3 : decide ((65 : Int) ≤ a) <;> simp (disch := ((try simp only [LL]); omega)) only [↓GO, ↓DRW, GA, GX, ren, zo, za, refs, z8, cst, zr, isC, bin, una, z7, zd, blt, asArg, zg, zc, zf, z6, E.mkS, unN, ze, zq, zb, GS, simprocAttr, GZ, h1, h3, ge_iff_le]
 · simp (disch := ((try simp only [LL]); omega)) only [↓GO, ↓DRW, GA, GX, ren, zo, za, refs, z8, cst, zr, isC, bin, una, z7, zd, blt, asArg, zg, zc, zf, z6, E.mkS, unN, ze, zq, zb, GS, simprocAttr, GZ, h1]
theorem RQ (b : UInt8) : zm (EV Tryz.prog pol) 218 [.t (.int .u8 (b.toNat : Int))] = some (.t (.bool (preB b))) := by
 have h1 := ct (b.toNat : Int)
 have h2 := ot (b.toNat : Int)
 apply zu
 refine zw rfl Tryz.func218 rfl (by kernel_rfl) ?_
 unfold Tryz.f218
 unfold preB
 simp only [nb]
 cases h3 : B2 (b.toNat : Int) 97 122 <;> cases h4 : B2 (b.toNat : Int) 65 90 <;> cases h5 : B2 (b.toNat : Int) 48 57 <;> rw [h3, h4] at h1 <;> rw [h5] at h2 <;>
  simp (disch := ((try simp only [LL]); omega)) only [↓GO, ↓DRW, GA, GX, ren, zo, za, refs, z8, cst, zr, isC, bin, una, z7, zd, blt, asArg, zg, zc, zf, z6, E.mkS, unN, ze, zq, zb, GS, simprocAttr, GZ, h1, h2]
theorem Sk (b : UInt8) : zm (EV Tryz.prog pol) 157 [.t (.int .u8 (b.toNat : Int))] = some (.t (.bool (isD b))) := by
 rw [ot, UC]
theorem Sj (s : Str) (hl : s.length ≤ 9223372036854775807) : zm (EV Tryz.prog pol) 220 [.t (.str s)] = some (.t (.bool (isNum s))) := by
 have h := ZR 157 isD Sk s hl
 apply zu
 refine zw rfl Tryz.func220 rfl (by kernel_rfl) ?_
 unfold Tryz.f220
 unfold isNum
 cases h1 : (s == []) <;> simp (disch := ((try simp only [LL]); omega)) only [↓GO, ↓DRW, GA, GX, ren, zo, za, refs, z8, cst, zr, isC, bin, una, z7, zd, blt, asArg, zg, zc, zf, z6, E.mkS, unN, ze, zq, zb, GS, simprocAttr, GZ, h, h1, bne]
theorem TJ (x1 x2 x3 x4 : T) (a b c : Int) :
 EV Tryz.prog pol (.loop 204 26 0 [.ptr 0 0 0, .sl 1 0 3 (some 3), .t (.int .i64 3), .t (.int .i64 0)] [.vs 4 [[.t x1, .t x2, .t x3, .t x4]], .ts 1 [[.int .i64 a], [.int .i64 b], [.int .i64 c]]])
 = some (cond (n9 a && (n9 b && n9 c)) (.loop (.exit 0) [.ptr 0 0 0, .bad] [.vs 4 [[.t x1, .t x2, .t x3, .t x4]]]) (.loop .ret [.ptr 0 0 0, .t (.bool false)] [.vs 4 [[.t x1, .t x2, .t x3, .t x4]]])) := by
 have ha := wE a 0 999999999
 have hb := wE b 0 999999999
 have hc := wE c 0 999999999
 rw [SP] at ha hb hc
 cases h1 : n9 a <;> rw [h1] at ha
 · refine zk Tryz.func204 rfl rfl ?_
   simp (disch := ((try simp only [LL]); omega)) only [↓GO, ↓DRW, GA, GX, ren, zo, za, refs, z8, cst, zr, isC, bin, una, z7, zd, blt, asArg, zg, zc, zf, z6, E.mkS, unN, ze, zq, zb, GS, simprocAttr, GZ, ha, zn, zH, Int.cast_ofNat_Int]
 · refine zk Tryz.func204 rfl rfl ?_
   simp (disch := ((try simp only [LL]); omega)) only [↓GO, ↓DRW, GA, GX, ren, zo, za, refs, z8, cst, zr, isC, bin, una, z7, zd, blt, asArg, zg, zc, zf, z6, E.mkS, unN, ze, zq, zb, GS, simprocAttr, GZ, ha, zn, zH, Int.cast_ofNat_Int]
   cases h2 : n9 b <;> rw [h2] at hb
   · refine zk Tryz.func204 rfl rfl ?_
     simp (disch := ((try simp only [LL]); omega)) only [↓GO, ↓DRW, GA, GX, ren, zo, za, refs, z8, cst, zr, isC, bin, una, z7, zd, blt, asArg, zg, zc, zf, z6, E.mkS, unN, ze, zq, zb, GS, simprocAttr, GZ, hb, zn, Int.zero_add, zH, Int.cast_ofNat_Int, Int.reduceAdd]
   · refine zk Tryz.func204 rfl rfl ?_
     simp (disch := ((try simp only [LL]); omega)) only [↓GO, ↓DRW, GA, GX, ren, zo, za, refs, z8, cst, zr, isC, bin, una, z7, zd, blt, asArg, zg, zc, zf, z6, E.mkS, unN, ze, zq, zb, GS, simprocAttr, GZ, hb, zn, Int.zero_add, zH, Int.cast_ofNat_Int, Int.reduceAdd]
     cases h3 : n9 c <;> rw [h3] at hc
     · refine zk Tryz.func204 rfl rfl ?_
       simp (disch := ((try simp only [LL]); omega)) only [↓GO, ↓DRW, GA, GX, ren, zo, za, refs, z8, cst, zr, isC, bin, una, z7, zd, blt, asArg, zg, zc, zf, z6, E.mkS, unN, ze, zq, zb, GS, simprocAttr, GZ, hc, zn, Int.zero_add, zH, Int.cast_ofNat_Int, Int.reduceAdd]
     · refine zk Tryz.func204 rfl rfl ?_
       simp (disch := ((try simp only [LL]); omega)) only [↓GO, ↓DRW, GA, GX, ren, zo, za, refs, z8, cst, zr, isC, bin, una, z7, zd, blt, asArg, zg, zc, zf, z6, E.mkS, unN, ze, zq, zb, GS, simprocAttr, GZ, hc, zn, Int.zero_add, zH, Int.cast_ofNat_Int, Int.reduceAdd]
       refine zk Tryz.func204 rfl rfl ?_
       simp (disch := ((try simp only [LL]); omega)) only [↓GO, ↓DRW, GA, GX, ren, zo, za, refs, z8, cst, zr, isC, bin, una, z7, zd, blt, asArg, zg, zc, zf, z6, E.mkS, unN, ze, zq, zb, GS, simprocAttr, GZ, zn, Int.zero_add, zH, Int.cast_ofNat_Int, Int.reduceAdd]
theorem aD (v : Ver) (hs : v.sm) : ∀ (rest pre : List Str), v.pre = pre ++ rest →
 EV Tryz.prog pol (.loop 204 58 0 [.ptr 0 0 0, .t (.list 1 (strs v.pre)), .t (.int .i64 (v.pre.length : Int)), .t (.int .i64 (pre.length : Int))] [.vs 4 [v.enc.map .t]])
 = some (cond (rest.all tE) (.loop (.exit 2) [.ptr 0 0 0, .bad] [.vs 4 [v.enc.map .t]]) (.loop .ret [.ptr 0 0 0, .t (.bool false)] [.vs 4 [v.enc.map .t]]))
 | [], pre, hp => by
  have c : decide ((pre.length : Int) < (v.pre.length : Int)) = false := by simp [hp]
  refine zk Tryz.func204 rfl rfl ?_
  simp only [↓GO, ↓DRW, GA, GX, ren, zo, za, refs, z8, cst, zr, isC, bin, una, z7, zd, blt, asArg, zg, zc, zf, z6, E.mkS, unN, ze, zq, zb, GS, simprocAttr, c, Ver.enc]
 | x :: rest, pre, hp => by
  unfold Ver.sm at hs
  have c : decide ((pre.length : Int) < (v.pre.length : Int)) = true := by simp [hp]; omega
  have hget : (strs v.pre)[pre.length]? = some [.str x] := by rw [hp]; exact wR pre x rest
  have hlen : pre.length + rest.length + 1 ≤ v.pre.length := by rw [hp]; simp; omega
  have hx : x.length ≤ 2097152 := by have := uk (ks := v.pre) (s := x) (by rw [hp]; simp); omega
  have IH := aD v hs rest (pre ++ [x]) (by rw [hp]; simp)
  rw [show ((pre ++ [x]).length : Int) = (pre.length : Int) + 1 by simp] at IH
  have h1 := wE (x.length : Int) 1 20
  have h2 := ZR 218 preB RQ x (by omega)
  have h3 := Sj x (by omega)
  have h4 := ZP x (by omega)
  clear hp
  simp only [Ver.enc, List.map_cons, List.map_nil] at IH ⊢
  rw [List.all_cons, tE]
  have e4 : decide (zN x < 0) = !decide (0 ≤ zN x) := by
   rcases Int.lt_or_le (zN x) 0 with h | h
   · have a : ¬ (0 ≤ zN x) := by omega
     simp [h, a]
   · have a : ¬ (zN x < 0) := by omega
     simp [h, a]
  generalize B2 (x.length : Int) 1 20 = b1 at *
  generalize x.all preB = b2 at *
  generalize isNum x = b3 at *
  generalize zN x = rd at *
  generalize decide (0 ≤ rd) = b4 at *
  cases b1 <;> cases b2 <;> cases b3 <;> cases b4 <;> refine zk Tryz.func204 rfl rfl ?_ <;>
   simp (disch := ((try simp only [LL]); omega)) only [↓GO, ↓DRW, GA, GX, ren, zo, za, refs, z8, cst, zr, isC, bin, una, z7, zd, blt, asArg, zg, zc, zf, z6, E.mkS, unN, ze, zq, zb, GS, simprocAttr, GZ, c, hget, zn, h1, h2, h3, h4, e4, zi, IH, zH]
theorem RJ (v : Ver) (hs : v.sm) : zm (EV Tryz.prog pol) 204 [.agg (v.enc.map .t)] = some (.t (.bool (x6 v))) := by
 have h1 := TJ (.int .i64 v.maj) (.int .i64 v.min) (.int .i64 v.pat) (.list 1 (strs v.pre)) v.maj v.min v.pat
 have h2 := aD v hs v.pre [] rfl
 unfold Ver.sm at hs
 simp only [List.length_nil, Int.natCast_zero] at h2
 simp only [Ver.enc, List.map_cons, List.map_nil] at h1 h2 ⊢
 unfold x6
 generalize (n9 v.maj && (n9 v.min && n9 v.pat)) = b1 at *
 generalize v.pre.all tE = b2 at *
 apply zu
 refine zw rfl Tryz.func204 rfl (by kernel_rfl) ?_
 unfold Tryz.f204
 cases b1 <;> cases b2 <;> simp only [cond_true, cond_false] at h1 h2 <;>
  simp (disch := ((try simp only [LL]); omega)) only [↓GO, ↓DRW, GA, GX, ren, zo, za, refs, z8, cst, zr, isC, bin, una, z7, zd, blt, asArg, zg, zc, zf, z6, E.mkS, unN, ze, zq, zb, GS, simprocAttr, GZ, h1, h2, zi, zH, Int.cast_ofNat_Int]
theorem Sm (b : UInt8) : zm (EV Tryz.prog pol) 207 [.t (.int .u8 (b.toNat : Int))] = some (.t (.bool (B2 (b.toNat : Int) 65 90))) := by
 have h := wk (b.toNat : Int) 65 90
 apply zu
 refine zw rfl Tryz.func207 rfl (by kernel_rfl) ?_
 unfold Tryz.f207
 simp (disch := ((try simp only [LL]); omega)) only [↓GO, ↓DRW, GA, GX, ren, zo, za, refs, z8, cst, zr, isC, bin, una, z7, zd, blt, asArg, zg, zc, zf, z6, E.mkS, unN, ze, zq, zb, GS, simprocAttr, GZ, h, conv, wrap_u8]
theorem Ux (s : Str) (hl : s.length ≤ 2097152) : ∀ (rest pre : Str), s = pre ++ rest →
 EV Tryz.prog pol (.loop 208 26 0 [.t (.str s), .t (.int .i64 (pre.length : Int))] []) = some (cond (rest.all isD) (.loop (.exit 0) [.t (.str s), .bad] []) (.loop .ret [.t (.str s), .t (.bool false)] []))
 | [], pre, hs => by
  have c : decide ((pre.length : Int) < (s.length : Int)) = false := by simp [hs]
  refine zk Tryz.func208 rfl rfl ?_
  simp only [↓GO, ↓DRW, GA, GX, ren, zo, za, refs, z8, cst, zr, isC, bin, una, z7, zd, blt, asArg, zg, zc, zf, z6, E.mkS, unN, ze, zq, zb, GS, simprocAttr, c]
 | b :: rest, pre, hs => by
  have c : decide ((pre.length : Int) < (s.length : Int)) = true := by simp [hs]; omega
  have hget : s[pre.length]? = some b := by rw [hs]; exact sd pre b rest
  have hlen : s.length = pre.length + rest.length + 1 := by rw [hs]; simp; omega
  have IH := Ux s hl rest (pre ++ [b]) (by rw [hs]; simp)
  rw [show ((pre ++ [b]).length : Int) = (pre.length : Int) + 1 by simp] at IH
  have hb := wk (b.toNat : Int) 48 57
  rw [UC] at hb
  clear hs
  refine zk Tryz.func208 rfl rfl ?_
  cases h1 : isD b <;> rw [h1] at hb <;>
   simp (disch := ((try simp only [LL]); omega)) only [↓GO, ↓DRW, GA, GX, ren, zo, za, refs, z8, cst, zr, isC, bin, una, z7, zd, blt, asArg, zg, zc, zf, z6, E.mkS, unN, ze, zq, zb, GS, simprocAttr, GZ, c, hget, zn, conv, wrap_u8, hb, h1, IH]
theorem Q0 (s : Str) (hl : s.length ≤ 2097152) : zm (EV Tryz.prog pol) 208 [.t (.str s)] = some (.t (.bool (isNum s))) := by
 have IH := Ux s hl s [] rfl
 simp only [List.length_nil, Int.natCast_zero] at IH
 apply zu
 refine zw rfl Tryz.func208 rfl (by kernel_rfl) ?_
 unfold Tryz.f208
 unfold isNum
 cases h1 : s.all isD <;> rw [h1] at IH <;> simp only [cond_true, cond_false] at IH <;>
  simp (disch := ((try simp only [LL]); omega)) only [↓GO, ↓DRW, GA, GX, ren, zo, za, refs, z8, cst, zr, isC, bin, una, z7, zd, blt, asArg, zg, zc, zf, z6, E.mkS, unN, ze, zq, zb, GS, simprocAttr, GZ, IH, bne]
theorem Us (s : Str) (hl : s.length ≤ 2097152) : ∀ (rest pre : Str), s = pre ++ rest →
 EV Tryz.prog pol (.loop 192 26 0 [.t (.str s), .t (.int .i64 (pre.length : Int))] []) = some (cond (rest.all preB) (.loop (.exit 0) [.t (.str s), .bad] []) (.loop .ret [.t (.str s), .t (.bool false)] []))
 | [], pre, hs => by
  have c : decide ((pre.length : Int) < (s.length : Int)) = false := by simp [hs]
  refine zk Tryz.func192 rfl rfl ?_
  simp only [↓GO, ↓DRW, GA, GX, ren, zo, za, refs, z8, cst, zr, isC, bin, una, z7, zd, blt, asArg, zg, zc, zf, z6, E.mkS, unN, ze, zq, zb, GS, simprocAttr, c]
 | b :: rest, pre, hs => by
  have c : decide ((pre.length : Int) < (s.length : Int)) = true := by simp [hs]; omega
  have hget : s[pre.length]? = some b := by rw [hs]; exact sd pre b rest
  have hlen : s.length = pre.length + rest.length + 1 := by rw [hs]; simp; omega
  have IH := Us s hl rest (pre ++ [b]) (by rw [hs]; simp)
  rw [show ((pre ++ [b]).length : Int) = (pre.length : Int) + 1 by simp] at IH
  have hb := ni b
  have hg := Sm b
  clear hs
  refine zk Tryz.func192 rfl rfl ?_
  rw [List.all_cons, preB]
  simp only [nb] at *
  cases h1 : (B2 (b.toNat : Int) 97 122 || B2 (b.toNat : Int) 48 57) <;> rw [h1] at hb <;> cases h2 : B2 (b.toNat : Int) 65 90 <;> rw [h2] at hg <;> cases h3 : ((b.toNat : Int) == 45) <;>
   simp (disch := ((try simp only [LL]); omega)) only [↓GO, ↓DRW, GA, GX, ren, zo, za, refs, z8, cst, zr, isC, bin, una, z7, zd, blt, asArg, zg, zc, zf, z6, E.mkS, unN, ze, zq, zb, GS, simprocAttr, GZ, c, hget, zn, hb, hg, h3, bne, IH]
theorem RP (s : Str) (hl : s.length ≤ 2097152) : zm (EV Tryz.prog pol) 192 [.t (.str s)] = some (.t (.bool (tE s))) := by
 have IH := Us s hl s [] rfl
 simp only [List.length_nil, Int.natCast_zero] at IH
 have h1 := wk (s.length : Int) 1 20
 have h3 := Q0 s hl
 have h4 := il s (by omega)
 apply zu
 refine zw rfl Tryz.func192 rfl (by kernel_rfl) ?_
 unfold Tryz.f192
 unfold tE
 generalize B2 (s.length : Int) 1 20 = b1 at *
 generalize isNum s = b3 at *
 generalize zN s = rd at *
 cases ha : s.all preB <;> rw [ha] at IH <;> simp only [cond_true, cond_false] at IH <;> cases b1 <;> cases b3 <;>
  simp (disch := ((try simp only [LL]); omega)) only [↓GO, ↓DRW, GA, GX, ren, zo, za, refs, z8, cst, zr, isC, bin, una, z7, zd, blt, asArg, zg, zc, zf, z6, E.mkS, unN, ze, zq, zb, GS, simprocAttr, GZ, IH, h1, h3, h4, ge_iff_le]
theorem Uq (v : Ver) (hs : v.sm) : ∀ (rest pre : List Str), v.pre = pre ++ rest →
 EV Tryz.prog pol (.loop 171 26 0 [.ptr 0 0 0, .t (.int .i64 (pre.length : Int))] [.vs 4 [v.enc.map .t]])
 = some (cond (rest.all tE) (.loop (.exit 0) [.ptr 0 0 0, .bad] [.vs 4 [v.enc.map .t]]) (.loop .ret [.ptr 0 0 0, .t (.bool false)] [.vs 4 [v.enc.map .t]]))
 | [], pre, hp => by
  have c : decide ((pre.length : Int) < (v.pre.length : Int)) = false := by simp [hp]
  refine zk Tryz.func171 rfl rfl ?_
  simp only [↓GO, ↓DRW, GA, GX, ren, zo, za, refs, z8, cst, zr, isC, bin, una, z7, zd, blt, asArg, zg, zc, zf, z6, E.mkS, unN, ze, zq, zb, GS, simprocAttr, zi, c, Ver.enc]
 | x :: rest, pre, hp => by
  unfold Ver.sm at hs
  have c : decide ((pre.length : Int) < (v.pre.length : Int)) = true := by simp [hp]; omega
  have hget : (strs v.pre)[pre.length]? = some [.str x] := by rw [hp]; exact wR pre x rest
  have hlen : pre.length + rest.length + 1 ≤ v.pre.length := by rw [hp]; simp; omega
  have hx : x.length ≤ 2097152 := by have := uk (ks := v.pre) (s := x) (by rw [hp]; simp); omega
  have IH := Uq v hs rest (pre ++ [x]) (by rw [hp]; simp)
  rw [show ((pre ++ [x]).length : Int) = (pre.length : Int) + 1 by simp] at IH
  have h1 := RP x hx
  clear hp
  simp only [Ver.enc, List.map_cons, List.map_nil] at IH ⊢
  cases h2 : tE x <;> rw [h2] at h1 <;> refine zk Tryz.func171 rfl rfl ?_ <;>
   simp (disch := ((try simp only [LL]); omega)) only [↓GO, ↓DRW, GA, GX, ren, zo, za, refs, z8, cst, zr, isC, bin, una, z7, zd, blt, asArg, zg, zc, zf, z6, E.mkS, unN, ze, zq, zb, GS, simprocAttr, GZ, c, hget, zn, h1, h2, zi, IH, zH]
theorem bF (v : Ver) (hs : v.sm) : zm (EV Tryz.prog pol) 171 [.agg (v.enc.map .t)] = some (.t (.bool (x6 v))) := by
 have h2 := Uq v hs v.pre [] rfl
 have ha := wk v.maj 0 999999999
 have hb := wk v.min 0 999999999
 have hc := wk v.pat 0 999999999
 rw [SP] at ha hb hc
 unfold Ver.sm at hs
 simp only [List.length_nil, Int.natCast_zero] at h2
 simp only [Ver.enc, List.map_cons, List.map_nil] at h2 ⊢
 unfold x6
 generalize n9 v.maj = b1 at *
 generalize n9 v.min = b3 at *
 generalize n9 v.pat = b4 at *
 generalize v.pre.all tE = b2 at *
 apply zu
 refine zw rfl Tryz.func171 rfl (by kernel_rfl) ?_
 unfold Tryz.f171
 cases b2 <;> simp only [cond_true, cond_false] at h2 <;> cases b1 <;> cases b3 <;> cases b4 <;>
  simp (disch := ((try simp only [LL]); omega)) only [↓GO, ↓DRW, GA, GX, ren, zo, za, refs, z8, cst, zr, isC, bin, una, z7, zd, blt, asArg, zg, zc, zf, z6, E.mkS, unN, ze, zq, zb, GS, simprocAttr, GZ, h2, ha, hb, hc, zi, zH]
end Go.Proofs.YtonbkdklidfmfaaGreatDoor
/- The text of a version, and back, by both. Conditions: those of each lemma. -/
namespace Go.Proofs.YtonbkdklidfmfaaGreatDoor
open E
set_option linter.unusedSimpArgs false
set_option linter.unusedVariables false
set_option maxRecDepth 100000
theorem dP (c : Str) (x : Str) : ∀ pre : List Str, wJ c (pre ++ [x]) = cond (pre == []) ((c ++ [45]) ++ x) ((wJ c pre ++ [46]) ++ x)
 | [] => by simp [wJ, Lib.join_one]
 | y :: l => by
  unfold wJ
  rw [mv]
  simp
theorem ZV (c : Str) (l : List Str) : (wJ c l).length ≤ c.length + ya l + l.length + 1 := by
 have h := join_le [46] l
 unfold wJ
 cases l with
 | nil => simp only [show (([] : List Str) == []) = true from rfl, cond_true]; omega
 | cons x r =>
  simp only [beq_nil_cons, cond_false, List.length_append, List.length_cons, List.length_nil] at h ⊢
  omega
theorem Wy {v : Ver} (h : x6 v = true) : (uN v).length ≤ 29 := by
 obtain ⟨h1, h2, h3, _, _⟩ := uT h
 have a := wS v.maj h1.1 h1.2
 have b := wS v.min h2.1 h2.2
 have c := wS v.pat h3.1 h3.2
 unfold uN
 simp only [List.length_append, List.length_cons, List.length_nil]
 omega
theorem pz (v : Ver) (hs : v.sm) : zm (EV Tryz.prog pol) 187 [.agg (v.enc.map .t)] = some (.t (.str (yo v))) := by
 have h1 := RJ v hs
 unfold Ver.sm at hs
 unfold yo
 cases ho : x6 v with
 | false =>
  rw [ho] at h1
  simp only [Ver.enc, List.map_cons, List.map_nil] at h1 ⊢
  apply zu
  refine zw rfl Tryz.func187 rfl (by kernel_rfl) ?_
  unfold Tryz.f187
  simp (disch := ((try simp only [LL]); omega)) only [↓GO, ↓DRW, GA, GX, ren, zo, za, refs, z8, cst, zr, isC, bin, una, z7, zd, blt, asArg, zg, zc, zf, z6, E.mkS, unN, ze, zq, zb, GS, simprocAttr, GZ, h1]
 | true =>
  obtain ⟨q1, q2, q3, _, _⟩ := uT ho
  have a := wS v.maj q1.1 q1.2
  have b := wS v.min q2.1 q2.2
  have c := wS v.pat q3.1 q3.2
  have d1 := hY v.maj q1.1 q1.2
  have d2 := hY v.min q2.1 q2.2
  have d3 := hY v.pat q3.1 q3.2
  have hj := join_le [46] v.pre
  simp only [List.length_cons, List.length_nil] at hj
  have h2 := RX v.pre [46] (by omega) (by omega)
  have hg := bA v.pre
  rw [ho] at h1
  unfold wJ uN
  simp only [Ver.enc, List.map_cons, List.map_nil] at h1 ⊢
  cases hp : (v.pre == []) <;> rw [hp] at hg <;> simp only [Bool.not_true, Bool.not_false] at hg
  · apply zu
    refine zw rfl Tryz.func187 rfl (by kernel_rfl) ?_
    unfold Tryz.f187
    simp (disch := ((try simp only [LL]); omega)) only [↓GO, ↓DRW, GA, GX, ren, zo, za, refs, z8, cst, zr, isC, bin, una, z7, zd, blt, asArg, zg, zc, zf, z6, E.mkS, unN, ze, zq, zb, GS, simprocAttr, GZ, h1, d1, d2, d3, h2, hg, xb, zi, List.append_assoc]
  · apply zu
    refine zw rfl Tryz.func187 rfl (by kernel_rfl) ?_
    unfold Tryz.f187
    simp (disch := ((try simp only [LL]); omega)) only [↓GO, ↓DRW, GA, GX, ren, zo, za, refs, z8, cst, zr, isC, bin, una, z7, zd, blt, asArg, zg, zc, zf, z6, E.mkS, unN, ze, zq, zb, GS, simprocAttr, GZ, h1, d1, d2, d3, h2, hg, xb, zi, List.append_assoc]
theorem SQ (v : Ver) (hs : v.sm) (c : Str) (hc : c.length ≤ 40) : ∀ (rest pre : List Str), v.pre = pre ++ rest →
 EV Tryz.prog pol (.loop 135 122 0 [.ptr 0 0 0, .t (.str (wJ c pre)), .t (.int .i64 (pre.length : Int))] [.vs 4 [v.enc.map .t]])
 = some (.loop (.exit 0) [.t (.str (wJ c v.pre))] [])
 | [], pre, hp => by
  have c : decide ((pre.length : Int) < (v.pre.length : Int)) = false := by simp [hp]
  have e : v.pre = pre := by simpa using hp
  refine zk Tryz.func135 rfl rfl ?_
  simp only [↓GO, ↓DRW, GA, GX, ren, zo, za, refs, z8, cst, zr, isC, bin, una, z7, zd, blt, asArg, zg, zc, zf, z6, E.mkS, unN, ze, zq, zb, GS, simprocAttr, zi, c, Ver.enc, zH]
  rw [e]
 | x :: rest, pre, hp => by
  unfold Ver.sm at hs
  have c2 : decide ((pre.length : Int) < (v.pre.length : Int)) = true := by simp [hp]; omega
  have hget : (strs v.pre)[pre.length]? = some [.str x] := by rw [hp]; exact wR pre x rest
  have hlen : pre.length + rest.length + 1 ≤ v.pre.length := by rw [hp]; simp; omega
  have hbk : ya pre + x.length ≤ ya v.pre := by rw [hp, lp]; simp only [ya]; omega
  have ht := ZV c pre
  have IH := SQ v hs c hc rest (pre ++ [x]) (by rw [hp]; simp)
  rw [show ((pre ++ [x]).length : Int) = (pre.length : Int) + 1 by simp, dP] at IH
  have he := nF pre
  have e0 : (pre == []) = true → wJ c pre = c := fun h => by unfold wJ; rw [h]; rfl
  clear hp
  simp only [Ver.enc, List.map_cons, List.map_nil] at IH ⊢
  cases h0 : (pre == []) <;> rw [h0] at he IH <;> simp only [cond_true, cond_false] at IH
  · refine zk Tryz.func135 rfl rfl ?_
    simp (disch := ((try simp only [LL]); omega)) only [↓GO, ↓DRW, GA, GX, ren, zo, za, refs, z8, cst, zr, isC, bin, una, z7, zd, blt, asArg, zg, zc, zf, z6, E.mkS, unN, ze, zq, zb, GS, simprocAttr, GZ, c2, hget, zn, he, zi, IH, zH, xb]
  · have e1 := e0 h0
    rw [e1]
    refine zk Tryz.func135 rfl rfl ?_
    simp (disch := ((try simp only [LL]); omega)) only [↓GO, ↓DRW, GA, GX, ren, zo, za, refs, z8, cst, zr, isC, bin, una, z7, zd, blt, asArg, zg, zc, zf, z6, E.mkS, unN, ze, zq, zb, GS, simprocAttr, GZ, c2, hget, zn, he, zi, IH, zH, xb]
theorem dk (v : Ver) (hs : v.sm) : zm (EV Tryz.prog pol) 135 [.agg (v.enc.map .t)] = some (.t (.str (yo v))) := by
 have h1 := bF v hs
 unfold yo
 cases ho : x6 v with
 | false =>
  rw [ho] at h1
  simp only [Ver.enc, List.map_cons, List.map_nil] at h1 ⊢
  apply zu
  refine zw rfl Tryz.func135 rfl (by kernel_rfl) ?_
  unfold Tryz.f135
  simp (disch := ((try simp only [LL]); omega)) only [↓GO, ↓DRW, GA, GX, ren, zo, za, refs, z8, cst, zr, isC, bin, una, z7, zd, blt, asArg, zg, zc, zf, z6, E.mkS, unN, ze, zq, zb, GS, simprocAttr, GZ, h1]
 | true =>
  obtain ⟨q1, q2, q3, _, _⟩ := uT ho
  have a := wS v.maj q1.1 q1.2
  have b := wS v.min q2.1 q2.2
  have c := wS v.pat q3.1 q3.2
  have d1 := hX v.maj q1.1 q1.2
  have d2 := hX v.min q2.1 q2.2
  have d3 := hX v.pat q3.1 q3.2
  have hc := Wy ho
  have h2 := SQ v hs (uN v) (by omega) v.pre [] rfl
  rw [ho] at h1
  rw [show wJ (uN v) [] = uN v from rfl] at h2
  simp only [List.length_nil, Int.natCast_zero] at h2
  simp only [cond_true]
  generalize wJ (uN v) v.pre = tt at *
  unfold uN at h2
  simp only [Ver.enc, List.map_cons, List.map_nil] at h1 h2 ⊢
  apply zu
  refine zw rfl Tryz.func135 rfl (by kernel_rfl) ?_
  unfold Tryz.f135
  simp (disch := ((try simp only [LL]); omega)) only [↓GO, ↓DRW, GA, GX, ren, zo, za, refs, z8, cst, zr, isC, bin, una, z7, zd, blt, asArg, zg, zc, zf, z6, E.mkS, unN, ze, zq, zb, GS, simprocAttr, GZ, h1, d1, d2, d3, h2, xb, zH]
theorem mq {s : Str} (h : (x7 46 (yf 45 s).1).length ≠ 3) : vt s = none := by
 unfold vt
 split
 · rename_i a b c he; rw [he] at h; exact absurd rfl h
 · rfl
theorem l9 {s : Str} {v : Ver} (h : vt s = some v) (hl : s.length ≤ 1048700) : v.sm ∧ v.maj ≤ 999999999 ∧ -1 ≤ v.maj ∧ v.min ≤ 999999999 ∧ -1 ≤ v.min ∧ v.pat ≤ 999999999 ∧ -1 ≤ v.pat := by
 unfold vt at h
 split at h
 · rename_i a b c he
   cases h
   have h1 := sv a
   have h2 := sv b
   have h3 := sv c
   refine ⟨?_, h1.2, h1.1, h2.2, h2.1, h3.2, h3.1⟩
   have := vm 46 (yf 45 s).2.1
   have h5 := (px 45 s).2
   unfold Ver.sm
   cases (yf 45 s).2.2 with
   | true => simp only [cond_true]; omega
   | false => simp [ya]
 · cases h
theorem nZ (s : Str) (hl : s.length ≤ 1048700) : (zW s).1.sm ∧ (zW s).1.maj ≤ 999999999 ∧ -1 ≤ (zW s).1.maj ∧ (zW s).1.min ≤ 999999999 ∧ -1 ≤ (zW s).1.min ∧ (zW s).1.pat ≤ 999999999 ∧ -1 ≤ (zW s).1.pat := by
 unfold zW
 cases hm : vt s with
 | none => simp [Ver.zero, Ver.sm, ya]
 | some v =>
  have := l9 hm hl
  simp only
  cases (yo v == s) with
  | true => exact this
  | false => simp [Ver.zero, Ver.sm, ya]
def rvT (s : Str) : V := .tup [.agg ((zW s).1.enc.map .t), .t (.bool (zW s).2)]
theorem c_rvI (s : Str) (hl : s.length ≤ 1048700) : zm (EV Tryz.prog pol) 158 [.t (.str s)] = some (rvT s) := by
 have h1 := c_cut s [45] (by omega)
 rw [de] at h1
 have hl1 := px 45 s
 have h2 := iO (yf 45 s).1 [46] (by omega) (by simp)
 have h3 := iO (yf 45 s).2.1 [46] (by omega) (by simp)
 rw [nS] at h2 h3
 unfold rvT zW
 by_cases hn : (x7 46 (yf 45 s).1).length = 3
 · obtain ⟨a, b, c, hp⟩ : ∃ a b c, x7 46 (yf 45 s).1 = [a, b, c] := by
    match hq : x7 46 (yf 45 s).1, hn with
    | [a, b, c], _ => exact ⟨a, b, c, rfl⟩
   have hm : vt s = some ⟨zN a, zN b, zN c, cond (yf 45 s).2.2 (x7 46 (yf 45 s).2.1) []⟩ := by unfold vt; rw [hp]
   have hne := eg hm
   have hsm := (l9 hm hl).1
   have hbk := vm 46 (yf 45 s).1
   rw [hp] at h2 hbk
   simp only [ya] at hbk
   have d1 := ZP a (by omega)
   have d2 := ZP b (by omega)
   have d3 := ZP c (by omega)
   have hv := pz _ hsm
   rw [hm]
   have hs0 : (s == []) = false := by rw [beq_eq_false_iff_ne]; exact hne
   simp only [Ver.enc, List.map_cons, List.map_nil, vW, yp] at hv h2 ⊢
   generalize zN a = ra at *
   generalize zN b = rb at *
   generalize zN c = rc at *
   cases hh : (yf 45 s).2.2 <;> rw [hh] at h1 hv <;> simp only [cond_true, cond_false, yp] at hv ⊢
   · generalize yo ⟨ra, rb, rc, []⟩ = tt at *
     clear hm hsm
     cases he : (tt == s)
     · apply zu
       refine zw rfl Tryz.func158 rfl (by kernel_rfl) ?_
       unfold Tryz.f158
       simp (disch := ((try simp only [LL]); omega)) only [↓GO, ↓DRW, GA, GX, ren, zo, za, refs, z8, cst, zr, isC, bin, una, z7, zd, blt, asArg, zg, zc, zf, z6, E.mkS, unN, ze, zq, zb, GS, simprocAttr, GZ, h1, h2, d1, d2, d3, hv, he, bne, hs0, Ver.zero, yp]
       refine x5 (by kernel_rfl) ?_
       simp (disch := ((try simp only [LL]); omega)) only [↓GO, ↓DRW, GA, GX, ren, zo, za, refs, z8, cst, zr, isC, bin, una, z7, zd, blt, asArg, zg, zc, zf, z6, E.mkS, unN, ze, zq, zb, GS, simprocAttr, GZ, h1, h2, d1, d2, d3, hv, he, bne, hs0, Ver.zero, yp]
     · apply zu
       refine zw rfl Tryz.func158 rfl (by kernel_rfl) ?_
       unfold Tryz.f158
       simp (disch := ((try simp only [LL]); omega)) only [↓GO, ↓DRW, GA, GX, ren, zo, za, refs, z8, cst, zr, isC, bin, una, z7, zd, blt, asArg, zg, zc, zf, z6, E.mkS, unN, ze, zq, zb, GS, simprocAttr, GZ, h1, h2, d1, d2, d3, hv, he, bne, hs0, yp]
       refine x5 (by kernel_rfl) ?_
       simp (disch := ((try simp only [LL]); omega)) only [↓GO, ↓DRW, GA, GX, ren, zo, za, refs, z8, cst, zr, isC, bin, una, z7, zd, blt, asArg, zg, zc, zf, z6, E.mkS, unN, ze, zq, zb, GS, simprocAttr, GZ, h1, h2, d1, d2, d3, hv, he, bne, hs0, yp]
   · generalize yo ⟨ra, rb, rc, x7 46 (yf 45 s).2.1⟩ = tt at *
     clear hm hsm
     generalize x7 46 (yf 45 s).2.1 = pp at *
     cases he : (tt == s)
     · apply zu
       refine zw rfl Tryz.func158 rfl (by kernel_rfl) ?_
       unfold Tryz.f158
       simp (disch := ((try simp only [LL]); omega)) only [↓GO, ↓DRW, GA, GX, ren, zo, za, refs, z8, cst, zr, isC, bin, una, z7, zd, blt, asArg, zg, zc, zf, z6, E.mkS, unN, ze, zq, zb, GS, simprocAttr, GZ, h1, h2, h3, d1, d2, d3, hv, he, bne, hs0, Ver.zero, yp]
       refine x5 (by kernel_rfl) ?_
       simp (disch := ((try simp only [LL]); omega)) only [↓GO, ↓DRW, GA, GX, ren, zo, za, refs, z8, cst, zr, isC, bin, una, z7, zd, blt, asArg, zg, zc, zf, z6, E.mkS, unN, ze, zq, zb, GS, simprocAttr, GZ, h1, h2, h3, d1, d2, d3, hv, he, bne, hs0, Ver.zero, yp]
     · apply zu
       refine zw rfl Tryz.func158 rfl (by kernel_rfl) ?_
       unfold Tryz.f158
       simp (disch := ((try simp only [LL]); omega)) only [↓GO, ↓DRW, GA, GX, ren, zo, za, refs, z8, cst, zr, isC, bin, una, z7, zd, blt, asArg, zg, zc, zf, z6, E.mkS, unN, ze, zq, zb, GS, simprocAttr, GZ, h1, h2, h3, d1, d2, d3, hv, he, bne, hs0, yp]
       refine x5 (by kernel_rfl) ?_
       simp (disch := ((try simp only [LL]); omega)) only [↓GO, ↓DRW, GA, GX, ren, zo, za, refs, z8, cst, zr, isC, bin, una, z7, zd, blt, asArg, zg, zc, zf, z6, E.mkS, unN, ze, zq, zb, GS, simprocAttr, GZ, h1, h2, h3, d1, d2, d3, hv, he, bne, hs0, yp]
 · have hm := mq hn
   rw [hm]
   have hc : (((x7 46 (yf 45 s).1).length : Int) == 3) = false := by rw [beq_eq_false_iff_ne]; omega
   generalize x7 46 (yf 45 s).1 = parts at *
   apply zu
   refine zw rfl Tryz.func158 rfl (by kernel_rfl) ?_
   unfold Tryz.f158
   simp (disch := ((try simp only [LL]); omega)) only [↓GO, ↓DRW, GA, GX, ren, zo, za, refs, z8, cst, zr, isC, bin, una, z7, zd, blt, asArg, zg, zc, zf, z6, E.mkS, unN, ze, zq, zb, GS, simprocAttr, GZ, h1, h2, hc, bne, zi, Ver.zero, Ver.enc, yp]
theorem l_at (s : Str) (b : UInt8) (hl : s.length ≤ 4194304) : ∀ (rest pre : Str), s = pre ++ rest →
 EV Tryz.prog pol (.loop 194 26 0 [.t (.str s), .t (.int .u8 (b.toNat : Int)), .t (.int .i64 (pre.length : Int))] []) = some (cond (yf b rest).2.2 (.loop .ret [.t (.int .i64 ((pre.length : Int) + ((yf b rest).1.length : Int)))] []) (.loop (.exit 0) [.bad] []))
 | [], pre, hs => by
  have c : decide ((pre.length : Int) < (s.length : Int)) = false := by simp [hs]
  refine zk Tryz.func194 rfl rfl ?_
  simp only [↓GO, ↓DRW, GA, GX, ren, zo, za, refs, z8, cst, zr, isC, bin, una, z7, zd, blt, asArg, zg, zc, zf, z6, E.mkS, unN, ze, zq, zb, GS, simprocAttr, c, yf]
 | x :: rest, pre, hs => by
  have c : decide ((pre.length : Int) < (s.length : Int)) = true := by simp [hs]; omega
  have hget : s[pre.length]? = some x := by rw [hs]; exact sd pre x rest
  have hlen : s.length = pre.length + rest.length + 1 := by rw [hs]; simp; omega
  have IH := l_at s b hl rest (pre ++ [x]) (by rw [hs]; simp)
  rw [show ((pre ++ [x]).length : Int) = (pre.length : Int) + 1 by simp] at IH
  rw [yf]
  clear hs
  by_cases hx : x = b
  · subst hx
    rw [if_pos rfl]
    refine zk Tryz.func194 rfl rfl ?_
    simp (disch := ((try simp only [LL]); omega)) only [↓GO, ↓DRW, GA, GX, ren, zo, za, refs, z8, cst, zr, isC, bin, una, z7, zd, blt, asArg, zg, zc, zf, z6, E.mkS, unN, ze, zq, zb, GS, simprocAttr, GZ, c, hget, zn, Int.natCast_zero, Int.add_zero]
  · have c2 : ((x.toNat : Int) == (b.toNat : Int)) = false := by
     rw [beq_eq_false_iff_ne]; intro e; exact hx (UInt8.toNat_inj.1 (by omega))
    rw [if_neg hx]
    rw [show (((x :: (yf b rest).1).length : Nat) : Int) = ((yf b rest).1.length : Int) + 1 by simp, show (pre.length : Int) + (((yf b rest).1.length : Int) + 1) = (pre.length : Int) + 1 + ((yf b rest).1.length : Int) by omega]
    refine zk Tryz.func194 rfl rfl ?_
    simp (disch := ((try simp only [LL]); omega)) only [↓GO, ↓DRW, GA, GX, ren, zo, za, refs, z8, cst, zr, isC, bin, una, z7, zd, blt, asArg, zg, zc, zf, z6, E.mkS, unN, ze, zq, zb, GS, simprocAttr, GZ, c, hget, zn, c2, IH]
def atV (b : UInt8) (s : Str) : Int := cond (yf b s).2.2 ((yf b s).1.length : Int) (-1)
theorem c_at (s : Str) (b : UInt8) (hl : s.length ≤ 4194304) : zm (EV Tryz.prog pol) 194 [.t (.str s), .t (.int .u8 (b.toNat : Int))] = some (.t (.int .i64 (atV b s))) := by
 have IH := l_at s b hl s [] rfl
 simp only [List.length_nil, Int.natCast_zero, Int.zero_add] at IH
 unfold atV
 apply zu
 refine zw rfl Tryz.func194 rfl (by kernel_rfl) ?_
 unfold Tryz.f194
 cases h : (yf b s).2.2 <;> rw [h] at IH <;> simp only [cond_true, cond_false] at IH <;> simp (disch := ((try simp only [LL]); omega)) only [↓GO, ↓DRW, GA, GX, ren, zo, za, refs, z8, cst, zr, isC, bin, una, z7, zd, blt, asArg, zg, zc, zf, z6, E.mkS, unN, ze, zq, zb, GS, simprocAttr, GZ, IH]
theorem R5 (s : Str) (hl : s.length ≤ 1048700) : zm (EV Tryz.prog pol) 180 [.t (.str s)] = some (rvT s) := by
 have h1 := c_at s 45 (by omega)
 rw [show (((45 : UInt8)).toNat : Int) = 45 from rfl] at h1
 have hl1 := px 45 s
 have h2 := bG (yf 45 s).1 46 (by omega)
 have h3 := bG (yf 45 s).2.1 46 (by omega)
 rw [show (((46 : UInt8)).toNat : Int) = 46 from rfl] at h2 h3
 have hce := nD 45 s
 unfold rvT zW
 unfold atV at h1
 have hA : (yf 45 s).2.2 = false → (yf 45 s).1 = s := fun h => by rw [h, cond_false, List.append_nil] at hce; exact hce.symm
 have hB : (yf 45 s).2.2 = true → s.take (yf 45 s).1.length = (yf 45 s).1 ∧ s.drop ((yf 45 s).1.length + 1) = (yf 45 s).2.1 ∧ (yf 45 s).1.length + 1 ≤ s.length := fun h => by
  rw [h, cond_true] at hce
  have e1 : s.take (yf 45 s).1.length = (yf 45 s).1 := by
   conv => lhs; arg 2; rw [hce]
   exact List.take_left
  have e2 : s.drop ((yf 45 s).1.length + 1) = (yf 45 s).2.1 := by
   conv => lhs; arg 2; rw [hce]
   rw [← List.drop_drop, List.drop_left]; rfl
  refine ⟨e1, e2, ?_⟩
  have := congrArg List.length hce
  rw [List.length_append, List.length_cons] at this
  omega
 clear hce
 by_cases hn : (x7 46 (yf 45 s).1).length = 3
 · obtain ⟨a, b, c, hp⟩ : ∃ a b c, x7 46 (yf 45 s).1 = [a, b, c] := by
    match hq : x7 46 (yf 45 s).1, hn with
    | [a, b, c], _ => exact ⟨a, b, c, rfl⟩
   have hm : vt s = some ⟨zN a, zN b, zN c, cond (yf 45 s).2.2 (x7 46 (yf 45 s).2.1) []⟩ := by unfold vt; rw [hp]
   have hsm := (l9 hm hl).1
   have hbk := vm 46 (yf 45 s).1
   rw [hp] at h2 hbk
   simp only [ya] at hbk
   have d1 := il a (by omega)
   have d2 := il b (by omega)
   have d3 := il c (by omega)
   have hv := dk _ hsm
   rw [hm]
   simp only [Ver.enc, List.map_cons, List.map_nil, vW, yp] at hv h2 ⊢
   generalize zN a = ra at *
   generalize zN b = rb at *
   generalize zN c = rc at *
   cases hh : (yf 45 s).2.2 <;> rw [hh] at h1 hv <;> simp only [cond_true, cond_false, yp] at hv h1 ⊢
   · have hA' := hA hh
     rw [hA'] at h2
     generalize yo ⟨ra, rb, rc, []⟩ = tt at *
     clear hm hsm hA hB hp
     cases he : (tt == s)
     · apply zu
       refine zw rfl Tryz.func180 rfl (by kernel_rfl) ?_
       unfold Tryz.f180
       simp (disch := ((try simp only [LL]); omega)) only [↓GO, ↓DRW, GA, GX, ren, zo, za, refs, z8, cst, zr, isC, bin, una, z7, zd, blt, asArg, zg, zc, zf, z6, E.mkS, unN, ze, zq, zb, GS, simprocAttr, GZ, h1, h2, d1, d2, d3, hv, he, bne, ge_iff_le, Ver.zero, yp]
     · apply zu
       refine zw rfl Tryz.func180 rfl (by kernel_rfl) ?_
       unfold Tryz.f180
       simp (disch := ((try simp only [LL]); omega)) only [↓GO, ↓DRW, GA, GX, ren, zo, za, refs, z8, cst, zr, isC, bin, una, z7, zd, blt, asArg, zg, zc, zf, z6, E.mkS, unN, ze, zq, zb, GS, simprocAttr, GZ, h1, h2, d1, d2, d3, hv, he, bne, ge_iff_le, yp]
   · obtain ⟨b1, b2, b3⟩ := hB hh
     generalize yo ⟨ra, rb, rc, x7 46 (yf 45 s).2.1⟩ = tt at *
     clear hm hsm hA hB hp
     generalize x7 46 (yf 45 s).2.1 = pp at *
     have g0 : decide ((0 : Int) ≤ ((yf 45 s).1.length : Int)) = true := by simp
     generalize (yf 45 s).2.1 = tl at *
     generalize (yf 45 s).1 = hd at *
     cases he : (tt == s)
     · apply zu
       refine zw rfl Tryz.func180 rfl (by kernel_rfl) ?_
       unfold Tryz.f180
       simp (disch := ((try simp only [LL]); omega)) only [↓GO, ↓DRW, GA, GX, ren, zo, za, refs, z8, cst, zr, isC, bin, una, z7, zd, blt, asArg, zg, zc, zf, z6, E.mkS, unN, ze, zq, zb, GS, simprocAttr, GZ, h1, h2, h3, d1, d2, d3, hv, he, bne, ge_iff_le, g0, b1, b2, zn, Ver.zero, yp]
     · apply zu
       refine zw rfl Tryz.func180 rfl (by kernel_rfl) ?_
       unfold Tryz.f180
       simp (disch := ((try simp only [LL]); omega)) only [↓GO, ↓DRW, GA, GX, ren, zo, za, refs, z8, cst, zr, isC, bin, una, z7, zd, blt, asArg, zg, zc, zf, z6, E.mkS, unN, ze, zq, zb, GS, simprocAttr, GZ, h1, h2, h3, d1, d2, d3, hv, he, bne, ge_iff_le, g0, b1, b2, zn]
 · have hm := mq hn
   rw [hm]
   have hc : (((x7 46 (yf 45 s).1).length : Int) == 3) = false := by rw [beq_eq_false_iff_ne]; omega
   cases hh : (yf 45 s).2.2 <;> rw [hh] at h1 <;> simp only [cond_true, cond_false] at h1
   · have hA' := hA hh
     rw [hA'] at h2 hc
     generalize x7 46 s = parts at *
     apply zu
     refine zw rfl Tryz.func180 rfl (by kernel_rfl) ?_
     unfold Tryz.f180
     simp (disch := ((try simp only [LL]); omega)) only [↓GO, ↓DRW, GA, GX, ren, zo, za, refs, z8, cst, zr, isC, bin, una, z7, zd, blt, asArg, zg, zc, zf, z6, E.mkS, unN, ze, zq, zb, GS, simprocAttr, GZ, h1, h2, hc, bne, ge_iff_le, zi, Ver.zero, Ver.enc, yp]
   · obtain ⟨b1, b2, b3⟩ := hB hh
     have g0 : decide ((0 : Int) ≤ ((yf 45 s).1.length : Int)) = true := by simp
     generalize x7 46 (yf 45 s).1 = parts at *
     generalize x7 46 (yf 45 s).2.1 = pp at *
     generalize (yf 45 s).2.1 = tl at *
     generalize (yf 45 s).1 = hd at *
     apply zu
     refine zw rfl Tryz.func180 rfl (by kernel_rfl) ?_
     unfold Tryz.f180
     simp (disch := ((try simp only [LL]); omega)) only [↓GO, ↓DRW, GA, GX, ren, zo, za, refs, z8, cst, zr, isC, bin, una, z7, zd, blt, asArg, zg, zc, zf, z6, E.mkS, unN, ze, zq, zb, GS, simprocAttr, GZ, h1, h2, h3, hc, bne, ge_iff_le, g0, b1, b2, zn, zi, Ver.zero, Ver.enc, yp]
end Go.Proofs.YtonbkdklidfmfaaGreatDoor
/- The range of a version alone, by both. Conditions: those of each lemma. -/
namespace Go.Proofs.YtonbkdklidfmfaaGreatDoor
open E
set_option linter.unusedSimpArgs false
set_option linter.unusedVariables false
set_option maxRecDepth 100000
theorem bP (a b c : Int) : Ver.sm ⟨a, b, c, [[48]]⟩ := by simp [Ver.sm, ya]
theorem c_zpI (a b c : Int) : zm (EV Tryz.prog pol) 188 [.t (.int .i64 a), .t (.int .i64 b), .t (.int .i64 c)] = some (.t (.str (xY a b c))) := by
 have h := pz ⟨a, b, c, [[48]]⟩ (bP a b c)
 simp only [Ver.enc, List.map_cons, List.map_nil, vW, yp] at h
 unfold xY
 apply zu
 refine zw rfl Tryz.func188 rfl (by kernel_rfl) ?_
 unfold Tryz.f188
 simp (disch := ((try simp only [LL]); omega)) only [↓GO, ↓DRW, GA, GX, ren, zo, za, refs, z8, cst, zr, isC, bin, una, z7, zd, blt, asArg, zg, zc, zf, z6, E.mkS, unN, ze, zq, zb, GS, simprocAttr, GZ, h]
theorem Sr (v : Ver) (hs : v.sm) (hp : v.pre.length + ya v.pre ≤ 2097150) (h0 : -1 ≤ v.pat) (h1 : v.pat ≤ 999999999) : zm (EV Tryz.prog pol) 159 [.agg (v.enc.map .t)] = some (.agg [.t (.str (yo v)), .t (.str (lF v))]) := by
 have a1 := c_zpI v.maj v.min (v.pat + 1)
 have a2 := pz v hs
 have hpv : (q8 v).sm := by
  unfold Ver.sm q8
  simp only [List.length_append, List.length_cons, List.length_nil, lp, ya]; omega
 have a3 := pz (q8 v) hpv
 unfold Ver.sm at hs
 have a4 := tu (strs v.pre) (by rw [zi]; omega)
 have ht : List.take (v.pre.length + 1) (strs v.pre ++ [[T.str [48]]]) = strs v.pre ++ [[T.str [48]]] := List.take_of_length_le (by simp [zi])
 have hg := bA v.pre
 unfold lF
 rw [show (q8 v).enc = [.int .i64 v.maj, .int .i64 v.min, .int .i64 v.pat, .list 1 (strs v.pre ++ [[.str [48]]])] by unfold Ver.enc q8; rw [qX]; rfl] at a3
 simp only [Ver.enc, List.map_cons, List.map_nil] at a2 a3 ⊢
 rw [zi] at a4
 generalize yo (q8 v) = tp at *
 generalize yo v = tv at *
 generalize xY v.maj v.min (v.pat + 1) = tz at *
 cases hb : (v.pre == []) <;> rw [hb] at hg <;> simp only [Bool.not_true, Bool.not_false] at hg
 · apply zu
   refine zw rfl Tryz.func159 rfl (by kernel_rfl) ?_
   unfold Tryz.f159
   simp (disch := ((try simp only [LL]); omega)) only [↓GO, ↓DRW, GA, GX, ren, zo, za, refs, z8, cst, zr, isC, bin, una, z7, zd, blt, asArg, zg, zc, zf, z6, E.mkS, unN, ze, zq, zb, GS, simprocAttr, GZ, a1, a2, a3, a4, ht, hg, zn, zi, xb, zH]
 · apply zu
   refine zw rfl Tryz.func159 rfl (by kernel_rfl) ?_
   unfold Tryz.f159
   simp (disch := ((try simp only [LL]); omega)) only [↓GO, ↓DRW, GA, GX, ren, zo, za, refs, z8, cst, zr, isC, bin, una, z7, zd, blt, asArg, zg, zc, zf, z6, E.mkS, unN, ze, zq, zb, GS, simprocAttr, GZ, a1, a2, a3, a4, ht, hg, zn, zi, xb, zH]
def exT (s : Str) : List (List T) := match wO s with
 | some (l, h) => [[.str l, .str h]]
 | none => []
theorem gw (s : Str) (hl : s.length ≤ 1048700) : (zW s).1.pre.length + ya (zW s).1.pre ≤ 1048701 := by
 unfold zW
 cases hm : vt s with
 | none => simp [Ver.zero, ya]
 | some v =>
  have h : v.pre.length + ya v.pre ≤ 1048701 := by
   unfold vt at hm
   split at hm
   · cases hm
     have := vm 46 (yf 45 s).2.1
     have h5 := (px 45 s).2
     cases (yf 45 s).2.2 with
     | true => simp only [cond_true]; omega
     | false => simp [ya]
   · cases hm
  simp only
  cases (yo v == s) with
  | true => exact h
  | false => simp [Ver.zero, ya]
theorem c_exI (s : Str) (hl : s.length ≤ 1048700) : zm (EV Tryz.prog pol) 124 [.t (.str s)] = some (.t (.list 2 (exT s))) := by
 have h1 := c_rvI s hl
 obtain ⟨m1, m2, m3, m4, m5, m6, m7⟩ := nZ s hl
 have hp := gw s hl
 have h2 := Sr (zW s).1 m1 (by omega) m7 m6
 unfold exT wO
 unfold rvT at h1
 cases hk : (zW s).2 with
 | false =>
  rw [hk] at h1
  generalize (zW s).1 = v at *
  generalize yo v = tv at *
  generalize lF v = hv at *
  simp only [Ver.enc, List.map_cons, List.map_nil] at h1 h2 ⊢
  apply zu
  refine zw rfl Tryz.func124 rfl (by kernel_rfl) ?_
  unfold Tryz.f124
  simp (disch := ((try simp only [LL]); omega)) only [↓GO, ↓DRW, GA, GX, ren, zo, za, refs, z8, cst, zr, isC, bin, una, z7, zd, blt, asArg, zg, zc, zf, z6, E.mkS, unN, ze, zq, zb, GS, simprocAttr, GZ, h1, h2]
 | true =>
  have ht := (we hk).2.1
  rw [ht] at h2
  rw [hk] at h1
  generalize (zW s).1 = v at *
  generalize lF v = hv at *
  simp only [Ver.enc, List.map_cons, List.map_nil] at h1 h2 ⊢
  cases he : (hv == [])
  · apply zu
    refine zw rfl Tryz.func124 rfl (by kernel_rfl) ?_
    unfold Tryz.f124
    simp (disch := ((try simp only [LL]); omega)) only [↓GO, ↓DRW, GA, GX, ren, zo, za, refs, z8, cst, zr, isC, bin, una, z7, zd, blt, asArg, zg, zc, zf, z6, E.mkS, unN, ze, zq, zb, GS, simprocAttr, GZ, h1, h2, he]
  · apply zu
    refine zw rfl Tryz.func124 rfl (by kernel_rfl) ?_
    unfold Tryz.f124
    simp (disch := ((try simp only [LL]); omega)) only [↓GO, ↓DRW, GA, GX, ren, zo, za, refs, z8, cst, zr, isC, bin, una, z7, zd, blt, asArg, zg, zc, zf, z6, E.mkS, unN, ze, zq, zb, GS, simprocAttr, GZ, h1, h2, he]
end Go.Proofs.YtonbkdklidfmfaaGreatDoor
/- Versions compared, the next one, the range of one alone, by the reference. Conditions: those of each lemma. -/
namespace Go.Proofs.YtonbkdklidfmfaaGreatDoor
open E
set_option linter.unusedSimpArgs false
set_option linter.unusedVariables false
set_option maxRecDepth 100000
theorem oA (a b : Int) : zm (EV Tryz.prog pol) 209 [.t (.int .i64 a), .t (.int .i64 b)] = some (.t (.int .i64 (vn a b))) := by
 unfold vn
 cases h1 : decide (a < b) <;> cases h2 : decide (a > b)
 all_goals
  apply zu
  refine zw rfl Tryz.func209 rfl (by kernel_rfl) ?_
  unfold Tryz.f209
  simp (disch := ((try simp only [LL]); omega)) only [↓GO, ↓DRW, GA, GX, ren, zo, za, refs, z8, cst, zr, isC, bin, una, z7, zd, blt, asArg, zg, zc, zf, z6, E.mkS, unN, ze, zq, zb, GS, simprocAttr, GZ, h1, h2]
theorem S7 (a b : Str) : zm (EV Tryz.prog pol) 224 [.t (.str a), .t (.str b)] = some (.t (.int .i64 (dM a b))) := by
 unfold dM
 cases h1 : Op.bytesLess a b <;> cases h2 : (a == b)
 all_goals
  apply zu
  refine zw rfl Tryz.func224 rfl (by kernel_rfl) ?_
  unfold Tryz.f224
  simp (disch := ((try simp only [LL]); omega)) only [↓GO, ↓DRW, GA, GX, ren, zo, za, refs, z8, cst, zr, isC, bin, una, z7, zd, blt, asArg, zg, zc, zf, z6, E.mkS, unN, ze, zq, zb, GS, simprocAttr, GZ, h1, h2]
theorem RS (a b : Str) (ha : a.length ≤ 4194304) (hb : b.length ≤ 4194304) : zm (EV Tryz.prog pol) 210 [.t (.str a), .t (.str b)] = some (.t (.int .i64 (tA a b))) := by
 have d1 := il a (by omega)
 have d2 := il b (by omega)
 have d3 := oA (zN a) (zN b)
 have d4 := S7 a b
 unfold tA
 generalize zN a = ra at *
 generalize zN b = rb at *
 cases h1 : decide (ra ≥ 0) <;> cases h2 : decide (rb ≥ 0)
 all_goals
  apply zu
  refine zw rfl Tryz.func210 rfl (by kernel_rfl) ?_
  unfold Tryz.f210
  simp (disch := ((try simp only [LL]); omega)) only [↓GO, ↓DRW, GA, GX, ren, zo, za, refs, z8, cst, zr, isC, bin, una, z7, zd, blt, asArg, zg, zc, zf, z6, E.mkS, unN, ze, zq, zb, GS, simprocAttr, GZ, d1, d2, d3, d4, h1, h2]
theorem Rx (x1 x2 x3 x4 y1 y2 y3 y4 : T) (a b c : Int) :
 EV Tryz.prog pol (.loop 197 58 0 [.ptr 0 0 0, .ptr 1 0 0, .sl 2 0 3 (some 3), .t (.int .i64 0)] [.vs 4 [[.t x1, .t x2, .t x3, .t x4]], .vs 4 [[.t y1, .t y2, .t y3, .t y4]], .ts 1 [[.int .i64 a], [.int .i64 b], [.int .i64 c]]])
 = some (cond (a == 0) (cond (b == 0) (cond (c == 0) (.loop (.exit 0) [.ptr 0 0 0, .ptr 1 0 0, .bad] [.vs 4 [[.t x1, .t x2, .t x3, .t x4]], .vs 4 [[.t y1, .t y2, .t y3, .t y4]]])
  (.loop .ret [.ptr 0 0 0, .ptr 1 0 0, .t (.int .i64 c)] [.vs 4 [[.t x1, .t x2, .t x3, .t x4]], .vs 4 [[.t y1, .t y2, .t y3, .t y4]]]))
  (.loop .ret [.ptr 0 0 0, .ptr 1 0 0, .t (.int .i64 b)] [.vs 4 [[.t x1, .t x2, .t x3, .t x4]], .vs 4 [[.t y1, .t y2, .t y3, .t y4]]]))
  (.loop .ret [.ptr 0 0 0, .ptr 1 0 0, .t (.int .i64 a)] [.vs 4 [[.t x1, .t x2, .t x3, .t x4]], .vs 4 [[.t y1, .t y2, .t y3, .t y4]]])) := by
 cases h1 : (a == 0)
 · refine zk Tryz.func197 rfl rfl ?_
   simp (disch := ((try simp only [LL]); omega)) only [↓GO, ↓DRW, GA, GX, ren, zo, za, refs, z8, cst, zr, isC, bin, una, z7, zd, blt, asArg, zg, zc, zf, z6, E.mkS, unN, ze, zq, zb, GS, simprocAttr, GZ, h1, bne, zn, zH]
 · refine zk Tryz.func197 rfl rfl ?_
   simp (disch := ((try simp only [LL]); omega)) only [↓GO, ↓DRW, GA, GX, ren, zo, za, refs, z8, cst, zr, isC, bin, una, z7, zd, blt, asArg, zg, zc, zf, z6, E.mkS, unN, ze, zq, zb, GS, simprocAttr, GZ, h1, bne, zn, zH, Int.zero_add]
   cases h2 : (b == 0)
   · refine zk Tryz.func197 rfl rfl ?_
     simp (disch := ((try simp only [LL]); omega)) only [↓GO, ↓DRW, GA, GX, ren, zo, za, refs, z8, cst, zr, isC, bin, una, z7, zd, blt, asArg, zg, zc, zf, z6, E.mkS, unN, ze, zq, zb, GS, simprocAttr, GZ, h2, bne, zn, zH]
   · refine zk Tryz.func197 rfl rfl ?_
     simp (disch := ((try simp only [LL]); omega)) only [↓GO, ↓DRW, GA, GX, ren, zo, za, refs, z8, cst, zr, isC, bin, una, z7, zd, blt, asArg, zg, zc, zf, z6, E.mkS, unN, ze, zq, zb, GS, simprocAttr, GZ, h2, bne, zn, zH, Int.reduceAdd]
     cases h3 : (c == 0)
     · refine zk Tryz.func197 rfl rfl ?_
       simp (disch := ((try simp only [LL]); omega)) only [↓GO, ↓DRW, GA, GX, ren, zo, za, refs, z8, cst, zr, isC, bin, una, z7, zd, blt, asArg, zg, zc, zf, z6, E.mkS, unN, ze, zq, zb, GS, simprocAttr, GZ, h3, bne, zn, zH]
     · refine zk Tryz.func197 rfl rfl ?_
       simp (disch := ((try simp only [LL]); omega)) only [↓GO, ↓DRW, GA, GX, ren, zo, za, refs, z8, cst, zr, isC, bin, una, z7, zd, blt, asArg, zg, zc, zf, z6, E.mkS, unN, ze, zq, zb, GS, simprocAttr, GZ, h3, bne, zn, zH, Int.reduceAdd]
       refine zk Tryz.func197 rfl rfl ?_
       simp (disch := ((try simp only [LL]); omega)) only [↓GO, ↓DRW, GA, GX, ren, zo, za, refs, z8, cst, zr, isC, bin, una, z7, zd, blt, asArg, zg, zc, zf, z6, E.mkS, unN, ze, zq, zb, GS, simprocAttr, GZ, zn, zH]
theorem UA (a b : Ver) (ha : a.sm) (hb : b.sm) : ∀ (ra rb pa pb : List Str), a.pre = pa ++ ra → b.pre = pb ++ rb → pa.length = pb.length →
 EV Tryz.prog pol (.loop 197 250 0 [.ptr 0 0 0, .ptr 1 0 0, .t (.int .i64 (pa.length : Int))] [.vs 4 [a.enc.map .t], .vs 4 [b.enc.map .t]])
 = some (match rH ra rb with
  | some n => .loop .ret [.ptr 0 0 0, .ptr 1 0 0, .t (.int .i64 n)] [.vs 4 [a.enc.map .t], .vs 4 [b.enc.map .t]]
  | none => .loop (.exit 2) [.ptr 0 0 0, .ptr 1 0 0, .bad] [.vs 4 [a.enc.map .t], .vs 4 [b.enc.map .t]])
 | [], rb, pa, pb, h1, h2, h3 => by
  have c : decide ((pa.length : Int) < (a.pre.length : Int)) = false := by simp [h1]
  simp only [Ver.enc, List.map_cons, List.map_nil, rH]
  refine zk Tryz.func197 rfl rfl ?_
  simp (disch := ((try simp only [LL]); omega)) only [↓GO, ↓DRW, GA, GX, ren, zo, za, refs, z8, cst, zr, isC, bin, una, z7, zd, blt, asArg, zg, zc, zf, z6, E.mkS, unN, ze, zq, zb, GS, simprocAttr, GZ, zi, c, zH]
 | x :: ra, [], pa, pb, h1, h2, h3 => by
  have c : decide ((pa.length : Int) < (a.pre.length : Int)) = true := by simp [h1]; omega
  have c2 : decide ((pa.length : Int) < (b.pre.length : Int)) = false := by simp [h2]; omega
  simp only [Ver.enc, List.map_cons, List.map_nil, rH]
  refine zk Tryz.func197 rfl rfl ?_
  simp (disch := ((try simp only [LL]); omega)) only [↓GO, ↓DRW, GA, GX, ren, zo, za, refs, z8, cst, zr, isC, bin, una, z7, zd, blt, asArg, zg, zc, zf, z6, E.mkS, unN, ze, zq, zb, GS, simprocAttr, GZ, zi, c, c2, zH]
 | x :: ra, y :: rb, pa, pb, h1, h2, h3 => by
  unfold Ver.sm at ha hb
  have c : decide ((pa.length : Int) < (a.pre.length : Int)) = true := by simp [h1]; omega
  have c2 : decide ((pa.length : Int) < (b.pre.length : Int)) = true := by simp [h2]; omega
  have hg1 : (strs a.pre)[pa.length]? = some [.str x] := by rw [h1]; exact wR pa x ra
  have hg2 : (strs b.pre)[pa.length]? = some [.str y] := by rw [h2, h3]; exact wR pb y rb
  have hlen : pa.length + ra.length + 1 ≤ a.pre.length := by rw [h1]; simp; omega
  have hx : x.length ≤ 2097152 := by have := uk (ks := a.pre) (s := x) (by rw [h1]; simp); omega
  have hy : y.length ≤ 2097152 := by have := uk (ks := b.pre) (s := y) (by rw [h2]; simp); omega
  have hp := RS x y (by omega) (by omega)
  have IH := UA a b ha hb ra rb (pa ++ [x]) (pb ++ [y]) (by rw [h1]; simp) (by rw [h2]; simp) (by simp [h3])
  rw [show ((pa ++ [x]).length : Int) = (pa.length : Int) + 1 by simp] at IH
  clear h1 h2
  simp only [Ver.enc, List.map_cons, List.map_nil] at IH ⊢
  rw [rH]
  generalize tA x y = n at *
  cases hn : (n == 0)
  · simp only [cond_false]
    refine zk Tryz.func197 rfl rfl ?_
    simp (disch := ((try simp only [LL]); omega)) only [↓GO, ↓DRW, GA, GX, ren, zo, za, refs, z8, cst, zr, isC, bin, una, z7, zd, blt, asArg, zg, zc, zf, z6, E.mkS, unN, ze, zq, zb, GS, simprocAttr, GZ, zi, c, c2, hg1, hg2, hp, hn, bne, zn, zH]
  · simp only [cond_true]
    refine zk Tryz.func197 rfl rfl ?_
    simp (disch := ((try simp only [LL]); omega)) only [↓GO, ↓DRW, GA, GX, ren, zo, za, refs, z8, cst, zr, isC, bin, una, z7, zd, blt, asArg, zg, zc, zf, z6, E.mkS, unN, ze, zq, zb, GS, simprocAttr, GZ, zi, c, c2, hg1, hg2, hp, hn, bne, zn, zH, IH]
theorem Q3 (a b : Ver) (ha : a.sm) (hb : b.sm) : zm (EV Tryz.prog pol) 197 [.agg (a.enc.map .t), .agg (b.enc.map .t)] = some (.t (.int .i64 (dL a b))) := by
 have d1 := oA a.maj b.maj
 have d2 := oA a.min b.min
 have d3 := oA a.pat b.pat
 have d4 := oA (b.pre.length : Int) (a.pre.length : Int)
 have d5 := oA (a.pre.length : Int) (b.pre.length : Int)
 have L2 := UA a b ha hb a.pre b.pre [] [] rfl rfl rfl
 have L1 := Rx (.int .i64 a.maj) (.int .i64 a.min) (.int .i64 a.pat) (.list 1 (strs a.pre)) (.int .i64 b.maj) (.int .i64 b.min) (.int .i64 b.pat) (.list 1 (strs b.pre)) (vn a.maj b.maj) (vn a.min b.min) (vn a.pat b.pat)
 have e1 := nF a.pre
 have e2 := nF b.pre
 unfold dL u7
 simp only [List.length_nil, Int.natCast_zero] at L2
 simp only [Ver.enc, List.map_cons, List.map_nil] at L1 L2 ⊢
 generalize vn a.maj b.maj = n1 at *
 generalize vn a.min b.min = n2 at *
 generalize vn a.pat b.pat = n3 at *
 cases h1 : (n1 == 0) <;> rw [h1] at L1
 · simp only [cond_false] at L1
   apply zu
   refine zw rfl Tryz.func197 rfl (by kernel_rfl) ?_
   unfold Tryz.f197
   simp (disch := ((try simp only [LL]); omega)) only [↓GO, ↓DRW, GA, GX, ren, zo, za, refs, z8, cst, zr, isC, bin, una, z7, zd, blt, asArg, zg, zc, zf, z6, E.mkS, unN, ze, zq, zb, GS, simprocAttr, GZ, d1, d2, d3, L1, zH]
   refine x5 (by kernel_rfl) ?_
   simp (disch := ((try simp only [LL]); omega)) only [↓GO, ↓DRW, GA, GX, ren, zo, za, refs, z8, cst, zr, isC, bin, una, z7, zd, blt, asArg, zg, zc, zf, z6, E.mkS, unN, ze, zq, zb, GS, simprocAttr, GZ, d1, d2, d3, L1, zH]
 · cases h2 : (n2 == 0) <;> rw [h2] at L1
   · simp only [cond_false, cond_true] at L1
     apply zu
     refine zw rfl Tryz.func197 rfl (by kernel_rfl) ?_
     unfold Tryz.f197
     simp (disch := ((try simp only [LL]); omega)) only [↓GO, ↓DRW, GA, GX, ren, zo, za, refs, z8, cst, zr, isC, bin, una, z7, zd, blt, asArg, zg, zc, zf, z6, E.mkS, unN, ze, zq, zb, GS, simprocAttr, GZ, d1, d2, d3, L1, zH]
     refine x5 (by kernel_rfl) ?_
     simp (disch := ((try simp only [LL]); omega)) only [↓GO, ↓DRW, GA, GX, ren, zo, za, refs, z8, cst, zr, isC, bin, una, z7, zd, blt, asArg, zg, zc, zf, z6, E.mkS, unN, ze, zq, zb, GS, simprocAttr, GZ, d1, d2, d3, L1, zH]
   · cases h3 : (n3 == 0) <;> rw [h3] at L1
     · simp only [cond_false, cond_true] at L1
       apply zu
       refine zw rfl Tryz.func197 rfl (by kernel_rfl) ?_
       unfold Tryz.f197
       simp (disch := ((try simp only [LL]); omega)) only [↓GO, ↓DRW, GA, GX, ren, zo, za, refs, z8, cst, zr, isC, bin, una, z7, zd, blt, asArg, zg, zc, zf, z6, E.mkS, unN, ze, zq, zb, GS, simprocAttr, GZ, d1, d2, d3, L1, zH]
       refine x5 (by kernel_rfl) ?_
       simp (disch := ((try simp only [LL]); omega)) only [↓GO, ↓DRW, GA, GX, ren, zo, za, refs, z8, cst, zr, isC, bin, una, z7, zd, blt, asArg, zg, zc, zf, z6, E.mkS, unN, ze, zq, zb, GS, simprocAttr, GZ, d1, d2, d3, L1, zH]
     · simp only [cond_true] at L1
       cases hs : rH a.pre b.pre <;> rw [hs] at L2 <;> simp only at L2 <;> cases h4 : (a.pre == []) <;> cases h5 : (b.pre == []) <;> rw [h4] at e1 <;> rw [h5] at e2
       all_goals
        apply zu
        refine zw rfl Tryz.func197 rfl (by kernel_rfl) ?_
        unfold Tryz.f197
        simp (disch := ((try simp only [LL]); omega)) only [↓GO, ↓DRW, GA, GX, ren, zo, za, refs, z8, cst, zr, isC, bin, una, z7, zd, blt, asArg, zg, zc, zf, z6, E.mkS, unN, ze, zq, zb, GS, simprocAttr, GZ, d1, d2, d3, d4, d5, L1, L2, zi, e1, e2, zH]
        refine x5 (by kernel_rfl) ?_
        simp (disch := ((try simp only [LL]); omega)) only [↓GO, ↓DRW, GA, GX, ren, zo, za, refs, z8, cst, zr, isC, bin, una, z7, zd, blt, asArg, zg, zc, zf, z6, E.mkS, unN, ze, zq, zb, GS, simprocAttr, GZ, d1, d2, d3, d4, d5, L1, L2, zi, e1, e2, zH, Option.getD_some, Option.getD_none]
end Go.Proofs.YtonbkdklidfmfaaGreatDoor
/- The next version, the range of one alone, by the reference. Conditions: those of each lemma. -/
namespace Go.Proofs.YtonbkdklidfmfaaGreatDoor
open E
set_option linter.unusedSimpArgs false
set_option linter.unusedVariables false
set_option maxRecDepth 100000
theorem SM (v : Ver) (p : Int) : (upV v p).sm := by
 unfold upV
 cases (p == 0) <;> cases (p == 1) <;> simp [Ver.sm, ya]
theorem TB {v : Ver} (h : v.sm) (p : Int) : (vr v p).sm := by
 unfold vr
 cases (!(x6 v) || !(B2 p 0 2)) <;> cases x6 (upV v p) <;> simp only [cond_true, cond_false] <;> first | exact h | exact SM v p
theorem RW (v : Ver) (p : Int) (hs : v.sm) (hp : p = 0 ∨ p = 1 ∨ p = 2) (h1 : -1 ≤ v.maj ∧ v.maj ≤ 999999999) (h2 : -1 ≤ v.min ∧ v.min ≤ 999999999) (h3 : -1 ≤ v.pat ∧ v.pat ≤ 999999999) :
 zm (EV Tryz.prog pol) 196 [.agg (v.enc.map .t), .t (.int .i64 p)] = some (.agg ((vr v p).enc.map .t)) := by
 have d1 := bF v hs
 have d2 := bF (upV v p) (SM v p)
 have d3 := wk p 0 2
 have hb : B2 p 0 2 = true := by rcases hp with rfl | rfl | rfl <;> rfl
 have e1 := nF v.pre
 have ht : List.take (0 + (strs v.pre).length) (strs v.pre) = strs v.pre := List.take_of_length_le (by omega)
 have ht2 : List.take v.pre.length (strs v.pre) = strs v.pre := List.take_of_length_le (by rw [zi]; omega)
 unfold Ver.sm at hs
 rw [hb] at d3
 unfold vr
 rw [hb]
 simp only [Bool.not_true, Bool.or_false]
 cases ho : x6 v <;> rw [ho] at d1
 · simp only [Ver.enc, List.map_cons, List.map_nil, Bool.not_false, cond_true] at d1 ⊢
   apply zu
   refine zw rfl Tryz.func196 rfl (by kernel_rfl) ?_
   unfold Tryz.f196
   simp (disch := ((try simp only [LL]); omega)) only [↓GO, ↓DRW, GA, GX, ren, zo, za, refs, z8, cst, zr, isC, bin, una, z7, zd, blt, asArg, zg, zc, zf, z6, E.mkS, unN, ze, zq, zb, GS, simprocAttr, GZ, d1, zi, ht, ht2, xb]
 · simp only [Bool.not_true, cond_false]
   unfold upV at d2 ⊢
   rcases hp with rfl | rfl | rfl
   · simp only [show ((0 : Int) == 0) = true from rfl, cond_true] at d2 ⊢
     cases hu : x6 ⟨v.maj + 1, 0, 0, []⟩ <;> rw [hu] at d2 <;> simp only [Ver.enc, List.map_cons, List.map_nil, yp, cond_true, cond_false] at d1 d2 ⊢
     all_goals
      apply zu
      refine zw rfl Tryz.func196 rfl (by kernel_rfl) ?_
      unfold Tryz.f196
      simp (disch := ((try simp only [LL]); omega)) only [↓GO, ↓DRW, GA, GX, ren, zo, za, refs, z8, cst, zr, isC, bin, una, z7, zd, blt, asArg, zg, zc, zf, z6, E.mkS, unN, ze, zq, zb, GS, simprocAttr, GZ, d1, d2, d3, zi, ht, ht2, xb, zn]
   · simp only [show ((1 : Int) == 0) = false from rfl, show ((1 : Int) == 1) = true from rfl, cond_true, cond_false] at d2 ⊢
     cases hu : x6 ⟨v.maj, v.min + 1, 0, []⟩ <;> rw [hu] at d2 <;> simp only [Ver.enc, List.map_cons, List.map_nil, yp, cond_true, cond_false] at d1 d2 ⊢
     all_goals
      apply zu
      refine zw rfl Tryz.func196 rfl (by kernel_rfl) ?_
      unfold Tryz.f196
      simp (disch := ((try simp only [LL]); omega)) only [↓GO, ↓DRW, GA, GX, ren, zo, za, refs, z8, cst, zr, isC, bin, una, z7, zd, blt, asArg, zg, zc, zf, z6, E.mkS, unN, ze, zq, zb, GS, simprocAttr, GZ, d1, d2, d3, zi, ht, ht2, xb, zn]
   · simp only [show ((2 : Int) == 0) = false from rfl, show ((2 : Int) == 1) = false from rfl, cond_false] at d2 ⊢
     cases hq : (v.pre == []) <;> rw [hq] at e1 d2 <;> simp only [cond_true, cond_false] at d2 ⊢
     · cases hu : x6 ⟨v.maj, v.min, v.pat, []⟩ <;> rw [hu] at d2 <;> simp only [Ver.enc, List.map_cons, List.map_nil, yp, cond_true, cond_false] at d1 d2 ⊢
       all_goals
        apply zu
        refine zw rfl Tryz.func196 rfl (by kernel_rfl) ?_
        unfold Tryz.f196
        simp (disch := ((try simp only [LL]); omega)) only [↓GO, ↓DRW, GA, GX, ren, zo, za, refs, z8, cst, zr, isC, bin, una, z7, zd, blt, asArg, zg, zc, zf, z6, E.mkS, unN, ze, zq, zb, GS, simprocAttr, GZ, d1, d2, d3, e1, zi, ht, ht2, xb, zn]
     · cases hu : x6 ⟨v.maj, v.min, v.pat + 1, []⟩ <;> rw [hu] at d2 <;> simp only [Ver.enc, List.map_cons, List.map_nil, yp, cond_true, cond_false] at d1 d2 ⊢
       all_goals
        apply zu
        refine zw rfl Tryz.func196 rfl (by kernel_rfl) ?_
        unfold Tryz.f196
        simp (disch := ((try simp only [LL]); omega)) only [↓GO, ↓DRW, GA, GX, ren, zo, za, refs, z8, cst, zr, isC, bin, una, z7, zd, blt, asArg, zg, zc, zf, z6, E.mkS, unN, ze, zq, zb, GS, simprocAttr, GZ, d1, d2, d3, e1, zi, ht, ht2, xb, zn]
theorem iQ (v : Ver) : (xp v).sm := by simp [xp, Ver.sm, ya]
theorem Sq (v : Ver) (p : Int) (hs : v.sm) (hp : p = 0 ∨ p = 1 ∨ p = 2) (h1 : -1 ≤ v.maj ∧ v.maj ≤ 999999999) (h2 : -1 ≤ v.min ∧ v.min ≤ 999999999) (h3 : -1 ≤ v.pat ∧ v.pat ≤ 999999999) :
 zm (EV Tryz.prog pol) 181 [.agg (v.enc.map .t), .t (.int .i64 p)] = some (.tup [.t (.str (lB v p).1), .t (.bool (lB v p).2)]) := by
 have d1 := RW (xp v) p (iQ v) hp h1 h2 h3
 have d2 := Q3 (vr (xp v) p) (xp v) (TB (iQ v) p) (iQ v)
 have d3 := dk ⟨(vr (xp v) p).maj, (vr (xp v) p).min, (vr (xp v) p).pat, [[48]]⟩ (bP _ _ _)
 unfold lB
 generalize dL (vr (xp v) p) (xp v) = cm at *
 generalize yo ⟨(vr (xp v) p).maj, (vr (xp v) p).min, (vr (xp v) p).pat, [[48]]⟩ = tx at *
 generalize vr (xp v) p = nx at *
 simp only [Ver.enc, xp, List.map_cons, List.map_nil, vW, yp] at d1 d2 d3 ⊢
 cases hc : (cm == 0)
 all_goals
  apply zu
  refine zw rfl Tryz.func181 rfl (by kernel_rfl) ?_
  unfold Tryz.f181
  simp (disch := ((try simp only [LL]); omega)) only [↓GO, ↓DRW, GA, GX, ren, zo, za, refs, z8, cst, zr, isC, bin, una, z7, zd, blt, asArg, zg, zc, zf, z6, E.mkS, unN, ze, zq, zb, GS, simprocAttr, GZ, d1, d2, d3, hc, yp]
def alT (s : Str) : V := match wO s with
 | some (l, h) => .tup [.agg [.t (.str l), .t (.str h)], .t (.bool true)]
 | none => .tup [.agg [.t (.str []), .t (.str [])], .t (.bool false)]
theorem WV (s : Str) (hl : s.length ≤ 1048600) : zm (EV Tryz.prog pol) 150 [.t (.str s)] = some (alT s) := by
 have d1 := R5 s (by omega)
 have d2 := R5 (s ++ [46, 48]) (by simp only [List.length_append, List.length_cons, List.length_nil]; omega)
 obtain ⟨m1, m2, m3, m4, m5, m6, m7⟩ := nZ s (by omega)
 have d3 := Sq (zW s).1 2 m1 (by omega) ⟨m3, m2⟩ ⟨m5, m4⟩ ⟨m7, m6⟩
 have hg := bA (zW s).1.pre
 unfold rvT at d1 d2
 unfold alT wO lF
 cases hk : (zW s).2 with
 | false =>
  rw [hk] at d1
  generalize (zW s).1 = v at *
  simp only [Bool.false_and, cond_false]
  simp only [Ver.enc, List.map_cons, List.map_nil] at d1 ⊢
  apply zu
  refine zw rfl Tryz.func150 rfl (by kernel_rfl) ?_
  unfold Tryz.f150
  simp (disch := ((try simp only [LL]); omega)) only [↓GO, ↓DRW, GA, GX, ren, zo, za, refs, z8, cst, zr, isC, bin, una, z7, zd, blt, asArg, zg, zc, zf, z6, E.mkS, unN, ze, zq, zb, GS, simprocAttr, GZ, d1]
 | true =>
  have ho := (we hk).2.2.1
  rw [hk] at d1
  cases hp : ((zW s).1.pre == []) with
  | true =>
   have hb := V2 ho 2 (by omega)
   simp only [show ((2 : Int) == 0) = false from rfl, show ((2 : Int) == 1) = false from rfl, show ((2 : Int) == 2) = true from rfl, cond_true, cond_false] at hb
   rw [hb] at d3
   rw [hp] at hg
   simp only [Bool.not_true, cond_true, Bool.true_and] at hg ⊢
   generalize (zW s).1 = v at *
   generalize xY v.maj v.min (v.pat + 1) = zp at *
   simp only [Ver.enc, List.map_cons, List.map_nil] at d1 d3 ⊢
   clear d2 hb
   cases hz : (zp == []) <;> rw [hz] at d3 <;> simp only [Bool.not_true, Bool.not_false, cond_true, cond_false] at d3 ⊢
   all_goals
    apply zu
    refine zw rfl Tryz.func150 rfl (by kernel_rfl) ?_
    unfold Tryz.f150
    simp (disch := ((try simp only [LL]); omega)) only [↓GO, ↓DRW, GA, GX, ren, zo, za, refs, z8, cst, zr, isC, bin, una, z7, zd, blt, asArg, zg, zc, zf, z6, E.mkS, unN, ze, zq, zb, GS, simprocAttr, GZ, d1, d3, hg, zi]
  | false =>
   obtain ⟨r1, r2⟩ := Y8 hk (fun h => by rw [h] at hp; cases hp)
   rw [r1] at d2
   rw [hp] at hg
   simp only [Bool.not_false, cond_false, Bool.true_and] at hg ⊢
   rw [r2]
   generalize x6 (q8 (zW s).1) = pk at *
   generalize q8 (zW s).1 = pv at *
   generalize (zW s).1 = v at *
   have hne : ((s ++ [46, 48]) == []) = false := by cases s <;> rfl
   simp only [Ver.enc, List.map_cons, List.map_nil] at d1 ⊢
   cases pk <;> simp only [Ver.enc, List.map_cons, List.map_nil, cond_true, cond_false, hne, Bool.not_false, show (([] : Str) == []) = true from rfl, Bool.not_true] at d2 ⊢
   all_goals
    apply zu
    refine zw rfl Tryz.func150 rfl (by kernel_rfl) ?_
    unfold Tryz.f150
    simp (disch := ((try simp only [LL]); omega)) only [↓GO, ↓DRW, GA, GX, ren, zo, za, refs, z8, cst, zr, isC, bin, una, z7, zd, blt, asArg, zg, zc, zf, z6, E.mkS, unN, ze, zq, zb, GS, simprocAttr, GZ, d1, d2, hg, zi, xb]
theorem c_exR (s : Str) (hl : s.length ≤ 1048600) : zm (EV Tryz.prog pol) 121 [.t (.str s)] = some (.t (.list 2 (exT s))) := by
 have d1 := WV s hl
 unfold exT
 unfold alT at d1
 cases he : wO s with
 | none =>
  rw [he] at d1
  simp only at d1 ⊢
  apply zu
  refine zw rfl Tryz.func121 rfl (by kernel_rfl) ?_
  unfold Tryz.f121
  simp (disch := ((try simp only [LL]); omega)) only [↓GO, ↓DRW, GA, GX, ren, zo, za, refs, z8, cst, zr, isC, bin, una, z7, zd, blt, asArg, zg, zc, zf, z6, E.mkS, unN, ze, zq, zb, GS, simprocAttr, GZ, d1]
 | some x =>
  obtain ⟨l, h⟩ := x
  rw [he] at d1
  simp only at d1 ⊢
  apply zu
  refine zw rfl Tryz.func121 rfl (by kernel_rfl) ?_
  unfold Tryz.f121
  simp (disch := ((try simp only [LL]); omega)) only [↓GO, ↓DRW, GA, GX, ren, zo, za, refs, z8, cst, zr, isC, bin, una, z7, zd, blt, asArg, zg, zc, zf, z6, E.mkS, unN, ze, zq, zb, GS, simprocAttr, GZ, d1]
end Go.Proofs.YtonbkdklidfmfaaGreatDoor
/- Packs and graphs, plain. Conditions: none. -/
namespace Go.Proofs.YtonbkdklidfmfaaGreatDoor
open E
set_option linter.unusedVariables false
set_option linter.unusedSimpArgs false
set_option maxRecDepth 100000
def UO : Str := [115, 104, 97, 49]
def iv : Str := [115, 104, 97, 50, 53, 54]
def h1S : Str := [104, 49]
def iu : Str := [115, 104, 97, 53, 49, 50]
def s7 (a : Str) : Int := cond (a == UO) 20 (cond (a == iv || a == h1S) 32 (cond (a == iu) 64 (-1)))
/-- is a text above the one ahead, if there is one? -/
def vx (prev : Option Str) (s : Str) : Bool := match prev with
 | none => true
 | some p => Op.bytesLess p s
def vM : Option Str → List zy → Bool
 | _, [] => true
 | prev, s :: r => (((s.bytes.length : Int) == s7 s.alg) && vx prev s.alg) && vM (some s.alg) r
def keyOf (p : z1) : Str := (p.name ++ [64]) ++ p.version
def gj (ps : List z1) (k : Str) : Bool := ps.any fun p => keyOf p == k
def rN (ps : List z1) (k : Str) : Option Nat := xN (fun p => keyOf p == k) ps 0
def xx (ps : List z1) : Option Str → List Str → Bool
 | _, [] => true
 | prev, k :: r => (gj ps k && vx prev k) && xx ps (some k) r
def ur (p : z1) : Bool := sS p.name && ((wO p.version).isSome && (tY p.source && vM none p.sums))
def xZ (ps : List z1) : Option Str → List z1 → Bool
 | _, [] => true
 | prev, p :: r => (ur p && (vx prev (keyOf p) && xx ps none p.zC)) && xZ ps (some (keyOf p)) r
def ym (g : zx) : Bool := xZ g.packs none g.packs && (decide ((g.packs.length : Int) ≤ 40) && xx g.packs none g.top)
theorem UB {α : Type} (p : α → Bool) (l : List α) : decide (ixI (xN p l 0) < 0) = !(l.any p) := by
 rw [← tq p l 0]
 cases xN p l 0 with
 | none => rfl
 | some n =>
  have h : ¬ ((n : Int) < 0) := by omega
  show decide ((n : Int) < 0) = false
  exact decide_eq_false h
/-- the one ahead of a place -/
theorem tj {α : Type} (f : α → List T) (pre : List α) (q : α) (rest : List α) : uS ((pre ++ [q] ++ rest).map f) (((pre ++ [q]).length : Int) - 1) = some (f q) := by
 unfold uS
 rw [if_pos (by simp)]
 have e : (((pre ++ [q]).length : Int) - 1).toNat = pre.length := by simp
 rw [e]
 simp
theorem pD {α : Type} (f : α → List T) (pre : List α) (x : α) (rest : List α) : ((pre ++ x :: rest).map f)[pre.length]? = some (f x) := by simp
theorem w5 {α : Type} (l : List α) : l = [] ∨ ∃ p q, l = p ++ [q] := by
 rcases List.eq_nil_or_concat l with h | ⟨p, q, h⟩
 · exact .inl h
 · exact .inr ⟨p, q, by rw [h, List.concat_eq_append]⟩
end Go.Proofs.YtonbkdklidfmfaaGreatDoor
/- Packs and graphs, by both. Conditions: those of each lemma. -/
namespace Go.Proofs.YtonbkdklidfmfaaGreatDoor
open E
set_option linter.unusedSimpArgs false
set_option linter.unusedVariables false
set_option maxRecDepth 100000
theorem iZ (p : z1) (hb : p.zY ≤ 4194304) : zm (EV Tryz.prog pol) 66 [.agg (p.enc.map .t)] = some (.t (.str (keyOf p))) := by
 obtain ⟨name, version, source, sums, dev, zC⟩ := p
 simp only [z1.zY] at hb
 simp only [z1.enc, List.map_cons, List.map_nil, keyOf]
 apply zu
 refine zw rfl Tryz.func66 rfl (by kernel_rfl) ?_
 unfold Tryz.f66
 simp (disch := ((try simp only [LL]); omega)) only [↓GO, ↓DRW, GA, GX, ren, zo, za, refs, z8, cst, zr, isC, bin, una, z7, zd, blt, asArg, zg, zc, zf, z6, E.mkS, unN, ze, zq, zb, GS, simprocAttr, GZ, xb]
theorem oB (p : z1) (hb : p.zY ≤ 4194304) : zm (EV Tryz.prog pol) 41 [.agg (p.enc.map .t)] = some (.t (.str (keyOf p))) := by
 obtain ⟨name, version, source, sums, dev, zC⟩ := p
 simp only [z1.zY] at hb
 simp only [z1.enc, List.map_cons, List.map_nil, keyOf]
 apply zu
 refine zw rfl Tryz.func41 rfl (by kernel_rfl) ?_
 unfold Tryz.f41
 simp (disch := ((try simp only [LL]); omega)) only [↓GO, ↓DRW, GA, GX, ren, zo, za, refs, z8, cst, zr, isC, bin, una, z7, zd, blt, asArg, zg, zc, zf, z6, E.mkS, unN, ze, zq, zb, GS, simprocAttr, GZ, xb]
theorem c_slI (a : Str) : zm (EV Tryz.prog pol) 161 [.t (.str a)] = some (.t (.int .i64 (s7 a))) := by
 unfold s7 UO iv h1S iu
 cases h1 : (a == [115, 104, 97, 49]) <;> cases h2 : (a == [115, 104, 97, 50, 53, 54]) <;> cases h3 : (a == [104, 49]) <;> cases h4 : (a == [115, 104, 97, 53, 49, 50])
 all_goals
  apply zu
  refine zw rfl Tryz.func161 rfl (by kernel_rfl) ?_
  unfold Tryz.f161
  simp (disch := ((try simp only [LL]); omega)) only [↓GO, ↓DRW, GA, GX, ren, zo, za, refs, z8, cst, zr, isC, bin, una, z7, zd, blt, asArg, zg, zc, zf, z6, E.mkS, unN, ze, zq, zb, GS, simprocAttr, GZ, h1, h2, h3, h4]
theorem c_slR (a : Str) : zm (EV Tryz.prog pol) 119 [.t (.str a)] = some (.t (.int .i64 (s7 a))) := by
 unfold s7 UO iv h1S iu
 cases h1 : (a == [115, 104, 97, 49]) <;> cases h2 : (a == [115, 104, 97, 50, 53, 54]) <;> cases h3 : (a == [104, 49]) <;> cases h4 : (a == [115, 104, 97, 53, 49, 50])
 all_goals
  apply zu
  refine zw rfl Tryz.func119 rfl (by kernel_rfl) ?_
  unfold Tryz.f119
  simp (disch := ((try simp only [LL]); omega)) only [↓GO, ↓DRW, GA, GX, ren, zo, za, refs, z8, cst, zr, isC, bin, una, z7, zd, blt, asArg, zg, zc, zf, z6, E.mkS, unN, ze, zq, zb, GS, simprocAttr, GZ, h1, h2, h3, h4]
theorem aE (es : List zy) (hl : es.length ≤ 4194304) : ∀ (rest pre : List zy), es = pre ++ rest →
 EV Tryz.prog pol (.loop 126 26 0 [.t (.list 2 (zy.zh es)), .t (.list 2 (zy.zh es)), .t (.int .i64 (es.length : Int)), .t (.int .i64 (pre.length : Int))] []) = some (cond (vM (pre.getLast?.map zy.alg) rest) (.loop (.exit 0) [.bad] []) (.loop .ret [.t (.bool false)] []))
 | [], pre, hs => by
  have c : decide ((pre.length : Int) < (es.length : Int)) = false := by simp [hs]
  refine zk Tryz.func126 rfl rfl ?_
  simp (disch := ((try simp only [LL]); omega)) only [↓GO, ↓DRW, GA, GX, ren, zo, za, refs, z8, cst, zr, isC, bin, una, z7, zd, blt, asArg, zg, zc, zf, z6, E.mkS, unN, ze, zq, zb, GS, simprocAttr, GZ, c, vM]
 | x :: rest, pre, hs => by
  have c : decide ((pre.length : Int) < (es.length : Int)) = true := by simp [hs]; omega
  have hget : (zy.zh es)[pre.length]? = some [.str x.alg, .str x.bytes] := by rw [hs]; exact pD zy.enc pre x rest
  have hlen : pre.length + rest.length + 1 ≤ es.length := by rw [hs]; simp; omega
  have IH := aE es hl rest (pre ++ [x]) (by rw [hs]; simp)
  have hk := c_slI x.alg
  rw [show ((pre ++ [x]).length : Int) = (pre.length : Int) + 1 by simp, show (pre ++ [x]).getLast?.map zy.alg = some x.alg by simp] at IH
  rw [vM]
  generalize s7 x.alg = n at *
  rcases w5 pre with rfl | ⟨pre', q, rfl⟩
  · clear hs
    simp only [List.length_nil, List.getLast?_nil, Option.map_none, vx, Int.natCast_zero, Int.zero_add] at *
    cases h1 : ((x.bytes.length : Int) == n)
    all_goals
     refine zk Tryz.func126 rfl rfl ?_
     simp (disch := ((try simp only [LL]); omega)) only [↓GO, ↓DRW, GA, GX, ren, zo, za, refs, z8, cst, zr, isC, bin, una, z7, zd, blt, asArg, zg, zc, zf, z6, E.mkS, unN, ze, zq, zb, GS, simprocAttr, GZ, zy.zj, c, hget, zn, hk, h1, bne, IH, Int.zero_add]
  · have hprev : uS (zy.zh es) (((pre' ++ [q]).length : Int) - 1) = some [.str q.alg, .str q.bytes] := by rw [hs]; exact tj zy.enc pre' q (x :: rest)
    have hge : 1 ≤ (pre' ++ [q]).length := by simp
    have hgt : decide (((pre' ++ [q]).length : Int) > 0) = true := by simp only [decide_eq_true_eq]; omega
    have hcmp := pE x.alg q.alg
    rw [show (pre' ++ [q]).getLast?.map zy.alg = some q.alg by simp]
    simp only [vx]
    clear hs
    generalize (pre' ++ [q]).length = m at *
    cases h1 : ((x.bytes.length : Int) == n) <;> cases h2 : Op.bytesLess q.alg x.alg <;> rw [h2] at hcmp
    all_goals
     refine zk Tryz.func126 rfl rfl ?_
     simp (disch := ((try simp only [LL]); omega)) only [↓GO, ↓DRW, GA, GX, ren, zo, za, refs, z8, cst, zr, isC, bin, una, z7, zd, blt, asArg, zg, zc, zf, z6, E.mkS, unN, ze, zq, zb, GS, simprocAttr, GZ, zy.zj, c, hget, zn, hk, h1, bne, hgt, hprev, hcmp, IH]
theorem S9 (es : List zy) (hl : es.length ≤ 4194304) : zm (EV Tryz.prog pol) 126 [.t (.list 2 (zy.zh es))] = some (.t (.bool (vM none es))) := by
 have IH := aE es hl es [] rfl
 simp only [List.length_nil, Int.natCast_zero, List.getLast?_nil, Option.map_none] at IH
 apply zu
 refine zw rfl Tryz.func126 rfl (by kernel_rfl) ?_
 unfold Tryz.f126
 cases h : vM none es <;> rw [h] at IH <;> simp only [cond_true, cond_false] at IH <;> simp (disch := ((try simp only [LL]); omega)) only [↓GO, ↓DRW, GA, GX, ren, zo, za, refs, z8, cst, zr, isC, bin, una, z7, zd, blt, asArg, zg, zc, zf, z6, E.mkS, unN, ze, zq, zb, GS, simprocAttr, GZ, zy.zj, IH]
theorem aF (p : z1) (hb : p.zY ≤ 4194304) : ∀ (rest pre : List zy), p.sums = pre ++ rest →
 EV Tryz.prog pol (.loop 83 26 0 [.ptr 0 0 0, .t (.int .i64 (pre.length : Int))] [.vs 6 [p.enc.map .t]]) = some (cond (vM (pre.getLast?.map zy.alg) rest) (.loop (.exit 0) [.ptr 0 0 0, .bad] [.vs 6 [p.enc.map .t]]) (.loop .ret [.ptr 0 0 0, .t (.bool false)] [.vs 6 [p.enc.map .t]]))
 | [], pre, hs => by
  have c : decide ((pre.length : Int) < (p.sums.length : Int)) = false := by simp [hs]
  simp only [z1.enc, List.map_cons, List.map_nil]
  refine zk Tryz.func83 rfl rfl ?_
  simp (disch := ((try simp only [LL]); omega)) only [↓GO, ↓DRW, GA, GX, ren, zo, za, refs, z8, cst, zr, isC, bin, una, z7, zd, blt, asArg, zg, zc, zf, z6, E.mkS, unN, ze, zq, zb, GS, simprocAttr, GZ, c, zy.zj, vM, zH]
 | x :: rest, pre, hs => by
  have c : decide ((pre.length : Int) < (p.sums.length : Int)) = true := by simp [hs]; omega
  have hget : (zy.zh p.sums)[pre.length]? = some [.str x.alg, .str x.bytes] := by rw [hs]; exact pD zy.enc pre x rest
  have hlen : pre.length + rest.length + 1 ≤ p.sums.length := by rw [hs]; simp; omega
  have hpb : p.sums.length ≤ 4194304 := by unfold z1.zY at hb; omega
  have IH := aF p hb rest (pre ++ [x]) (by rw [hs]; simp)
  have hk := c_slR x.alg
  rw [show ((pre ++ [x]).length : Int) = (pre.length : Int) + 1 by simp, show (pre ++ [x]).getLast?.map zy.alg = some x.alg by simp] at IH
  rw [vM]
  have hco : ((x.bytes.length : Int) == s7 x.alg) = (s7 x.alg == (x.bytes.length : Int)) := Bool.beq_comm
  rw [hco]
  generalize s7 x.alg = n at *
  simp only [z1.enc, List.map_cons, List.map_nil] at IH ⊢
  rcases w5 pre with rfl | ⟨pre', q, rfl⟩
  · clear hs
    simp only [List.length_nil, List.getLast?_nil, Option.map_none, vx, Int.natCast_zero, Int.zero_add] at *
    cases h1 : (n == (x.bytes.length : Int))
    all_goals
     refine zk Tryz.func83 rfl rfl ?_
     simp (disch := ((try simp only [LL]); omega)) only [↓GO, ↓DRW, GA, GX, ren, zo, za, refs, z8, cst, zr, isC, bin, una, z7, zd, blt, asArg, zg, zc, zf, z6, E.mkS, unN, ze, zq, zb, GS, simprocAttr, GZ, zy.zj, c, hget, zn, hk, h1, bne, IH, Int.zero_add, zH]
  · have hprev : uS (zy.zh p.sums) (((pre' ++ [q]).length : Int) - 1) = some [.str q.alg, .str q.bytes] := by rw [hs]; exact tj zy.enc pre' q (x :: rest)
    have hge : 1 ≤ (pre' ++ [q]).length := by simp
    have hgt : decide (((pre' ++ [q]).length : Int) > 0) = true := by simp only [decide_eq_true_eq]; omega
    rw [show (pre' ++ [q]).getLast?.map zy.alg = some q.alg by simp]
    simp only [vx]
    clear hs
    generalize (pre' ++ [q]).length = m at *
    cases h1 : (n == (x.bytes.length : Int)) <;> cases h2 : Op.bytesLess q.alg x.alg
    all_goals
     refine zk Tryz.func83 rfl rfl ?_
     simp (disch := ((try simp only [LL]); omega)) only [↓GO, ↓DRW, GA, GX, ren, zo, za, refs, z8, cst, zr, isC, bin, una, z7, zd, blt, asArg, zg, zc, zf, z6, E.mkS, unN, ze, zq, zb, GS, simprocAttr, GZ, zy.zj, c, hget, zn, hk, h1, bne, hgt, hprev, h2, IH, zH]
theorem TW (s : Str) : ((exT s).length : Int) = cond (wO s).isSome 1 0 := by
 unfold exT
 cases wO s <;> rfl
theorem Sd (p : z1) (hb : p.zY ≤ 1048576) : zm (EV Tryz.prog pol) 83 [.agg (p.enc.map .t)] = some (.t (.bool (ur p))) := by
 have L := aF p (by omega) p.sums [] rfl
 simp only [z1.zY] at hb
 have h1 := Sf p.name (by omega)
 have h2 := c_exR p.version (by omega)
 have h3 := WE p.source (by omega)
 have h4 := TW p.version
 simp only [List.length_nil, Int.natCast_zero, List.getLast?_nil, Option.map_none] at L
 simp only [z1.enc, List.map_cons, List.map_nil] at L ⊢
 unfold ur
 generalize exT p.version = et at *
 generalize vM none p.sums = b1 at *
 generalize sS p.name = b2 at *
 generalize tY p.source = b3 at *
 generalize (wO p.version).isSome = b4 at *
 cases b1 <;> simp only [cond_true, cond_false] at L <;> cases b2 <;> cases b4 <;> simp only [cond_true, cond_false] at h4 <;> cases b3
 all_goals
  apply zu
  refine zw rfl Tryz.func83 rfl (by kernel_rfl) ?_
  unfold Tryz.f83
  simp (disch := ((try simp only [LL]); omega)) only [↓GO, ↓DRW, GA, GX, ren, zo, za, refs, z8, cst, zr, isC, bin, una, z7, zd, blt, asArg, zg, zc, zf, z6, E.mkS, unN, ze, zq, zb, GS, simprocAttr, GZ, L, h1, h2, h3, h4, zH, zy.zj]
theorem Wt (s : Str) : ((exT s).length : Int) = cond (wO s).isSome 1 0 := by
 unfold exT
 cases wO s <;> rfl
theorem Se (p : z1) (hb : p.zY ≤ 1048576) : zm (EV Tryz.prog pol) 85 [.agg (p.enc.map .t)] = some (.t (.bool (ur p))) := by
 simp only [z1.zY] at hb
 have L := S9 p.sums (by omega)
 have h1 := Sg p.name (by omega)
 have h2 := c_exI p.version (by omega)
 have h3 := WG p.source (by omega)
 have h4 := Wt p.version
 simp only [z1.enc, List.map_cons, List.map_nil]
 unfold ur
 generalize exT p.version = et at *
 generalize vM none p.sums = b1 at *
 generalize sS p.name = b2 at *
 generalize tY p.source = b3 at *
 generalize (wO p.version).isSome = b4 at *
 cases b1 <;> cases b2 <;> cases b4 <;> simp only [cond_true, cond_false] at h4 <;> cases b3
 all_goals
  apply zu
  refine zw rfl Tryz.func85 rfl (by kernel_rfl) ?_
  unfold Tryz.f85
  simp (disch := ((try simp only [LL]); omega)) only [↓GO, ↓DRW, GA, GX, ren, zo, za, refs, z8, cst, zr, isC, bin, una, z7, zd, blt, asArg, zg, zc, zf, z6, E.mkS, unN, ze, zq, zb, GS, simprocAttr, GZ, L, h1, h2, h3, h4, zH, zy.zj]
/-- graphs of bounded size -/
def GB (g : zx) : Prop := g.zY ≤ 1048576
theorem GB.len {g : zx} (h : GB g) : g.packs.length ≤ 1048576 ∧ g.top.length + ya g.top ≤ 1048576 ∧ ∀ p ∈ g.packs, p.zY ≤ 1048576 := by
 unfold GB zx.zY at h
 refine ⟨by omega, by omega, fun p hp => ?_⟩
 have := z1.ye hp
 omega
theorem Sn (p : z1) (k : Str) (hb : p.zY ≤ 1048576) : zm (EV Tryz.prog pol) 88 [.agg (p.enc.map .t), .t (.fp [.str k])] = some (.t (.bool (keyOf p == k))) := by
 have h := iZ p (by omega)
 simp only [z1.enc, List.map_cons, List.map_nil] at h ⊢
 apply zu
 refine zw rfl Tryz.func88 rfl (by kernel_rfl) ?_
 unfold Tryz.f88
 simp (disch := ((try simp only [LL]); omega)) only [↓GO, ↓DRW, GA, GX, ren, zo, za, refs, z8, cst, zr, isC, bin, una, z7, zd, blt, asArg, zg, zc, zf, z6, E.mkS, unN, ze, zq, zb, GS, simprocAttr, GZ, h]
theorem Zs (g : zx) (k : Str) (hB : GB g) : zm (EV Tryz.prog pol) 33 [.agg (g.enc.map .t), .t (.str k)] = some (.t (.int .i64 (ixI (rN g.packs k)))) := by
 obtain ⟨b1, b2, b3⟩ := hB.len
 have h := vz 88 [.fp [.str k]] (fun p => keyOf p == k) g.packs (by omega) (fun x hx => Sn x k (b3 x hx))
 simp only [zx.enc, List.map_cons, List.map_nil] at h ⊢
 unfold rN
 apply zu
 refine zw rfl Tryz.func33 rfl (by kernel_rfl) ?_
 unfold Tryz.f33
 simp (disch := ((try simp only [LL]); omega)) only [↓GO, ↓DRW, GA, GX, ren, zo, za, refs, z8, cst, zr, isC, bin, una, z7, zd, blt, asArg, zg, zc, zf, z6, E.mkS, unN, ze, zq, zb, GS, simprocAttr, GZ, h, wx, zH]
theorem aP (g : zx) (k : Str) (hB : GB g) : ∀ (rest pre : List z1), g.packs = pre ++ rest →
 EV Tryz.prog pol (.loop 62 26 0 [.t (.str k), .ptr 0 0 0, .t (.int .i64 (pre.length : Int))] [.vs 2 [g.enc.map .t]]) = some (match xN (fun p => keyOf p == k) rest pre.length with | some i => .loop .ret [.t (.int .i64 (i : Int))] [] | none => .loop (.exit 0) [.bad] [])
 | [], pre, hs => by
  have c : decide ((pre.length : Int) < (g.packs.length : Int)) = false := by simp [hs]
  simp only [zx.enc, List.map_cons, List.map_nil]
  refine zk Tryz.func62 rfl rfl ?_
  simp (disch := ((try simp only [LL]); omega)) only [↓GO, ↓DRW, GA, GX, ren, zo, za, refs, z8, cst, zr, isC, bin, una, z7, zd, blt, asArg, zg, zc, zf, z6, E.mkS, unN, ze, zq, zb, GS, simprocAttr, GZ, c, z1.zj, xN, zH]
 | x :: rest, pre, hs => by
  obtain ⟨b1, b2, b3⟩ := hB.len
  have c : decide ((pre.length : Int) < (g.packs.length : Int)) = true := by simp [hs]; omega
  have hget : (z1.zh g.packs)[pre.length]? = some x.enc := by rw [hs]; exact pD z1.enc pre x rest
  have hlen : pre.length + rest.length + 1 ≤ g.packs.length := by rw [hs]; simp; omega
  have hk := oB x (by have := b3 x (by rw [hs]; simp); omega)
  have IH := aP g k hB rest (pre ++ [x]) (by rw [hs]; simp)
  rw [show ((pre ++ [x]).length : Int) = (pre.length : Int) + 1 by simp, show (pre ++ [x]).length = pre.length + 1 by simp] at IH
  clear hs
  simp only [zx.enc, z1.enc, List.map_cons, List.map_nil] at hget hk IH ⊢
  rw [xN]
  cases h1 : (keyOf x == k)
  all_goals
   refine zk Tryz.func62 rfl rfl ?_
   simp (disch := ((try simp only [LL]); omega)) only [↓GO, ↓DRW, GA, GX, ren, zo, za, refs, z8, cst, zr, isC, bin, una, z7, zd, blt, asArg, zg, zc, zf, z6, E.mkS, unN, ze, zq, zb, GS, simprocAttr, GZ, c, z1.zj, hget, hk, h1, zn, IH, zH]
theorem Zr (g : zx) (k : Str) (hB : GB g) : zm (EV Tryz.prog pol) 62 [.agg (g.enc.map .t), .t (.str k)] = some (.t (.int .i64 (ixI (rN g.packs k)))) := by
 have L := aP g k hB g.packs [] rfl
 simp only [List.length_nil, Int.natCast_zero] at L
 simp only [zx.enc, List.map_cons, List.map_nil] at L ⊢
 unfold rN
 cases hf : xN (fun p => keyOf p == k) g.packs 0 <;> rw [hf] at L <;> simp only at L
 all_goals
  apply zu
  refine zw rfl Tryz.func62 rfl (by kernel_rfl) ?_
  unfold Tryz.f62
  simp (disch := ((try simp only [LL]); omega)) only [↓GO, ↓DRW, GA, GX, ren, zo, za, refs, z8, cst, zr, isC, bin, una, z7, zd, blt, asArg, zg, zc, zf, z6, E.mkS, unN, ze, zq, zb, GS, simprocAttr, GZ, L, ixI, zH]
theorem aM (g : zx) (hB : GB g) (ks : List Str) (hl : ks.length ≤ 1048576) : ∀ (rest pre : List Str), ks = pre ++ rest →
 EV Tryz.prog pol (.loop 86 26 0 [.t (.list 1 (strs ks)), .ptr 0 0 0, .t (.list 1 (strs ks)), .t (.int .i64 (ks.length : Int)), .t (.int .i64 (pre.length : Int))] [.vs 2 [g.enc.map .t]]) = some (cond (xx g.packs pre.getLast? rest) (.loop (.exit 0) [.bad] []) (.loop .ret [.t (.bool false)] []))
 | [], pre, hs => by
  have c : decide ((pre.length : Int) < (ks.length : Int)) = false := by simp [hs]
  simp only [zx.enc, List.map_cons, List.map_nil]
  refine zk Tryz.func86 rfl rfl ?_
  simp (disch := ((try simp only [LL]); omega)) only [↓GO, ↓DRW, GA, GX, ren, zo, za, refs, z8, cst, zr, isC, bin, una, z7, zd, blt, asArg, zg, zc, zf, z6, E.mkS, unN, ze, zq, zb, GS, simprocAttr, GZ, c, xx, zH]
 | x :: rest, pre, hs => by
  have c : decide ((pre.length : Int) < (ks.length : Int)) = true := by simp [hs]; omega
  have hget : (strs ks)[pre.length]? = some [.str x] := by rw [hs]; exact wR pre x rest
  have hlen : pre.length + rest.length + 1 ≤ ks.length := by rw [hs]; simp; omega
  have IH := aM g hB ks hl rest (pre ++ [x]) (by rw [hs]; simp)
  have hk := Zs g x hB
  have hlt := UB (fun p => keyOf p == x) g.packs
  rw [show ((pre ++ [x]).length : Int) = (pre.length : Int) + 1 by simp, show (pre ++ [x]).getLast? = some x by simp] at IH
  rw [xx]
  unfold gj
  unfold rN at hk
  generalize ixI (xN (fun p => keyOf p == x) g.packs 0) = n at *
  generalize (g.packs.any fun p => keyOf p == x) = b1 at *
  simp only [zx.enc, List.map_cons, List.map_nil] at hk IH ⊢
  rcases w5 pre with rfl | ⟨pre', q, rfl⟩
  · clear hs
    simp only [List.length_nil, List.getLast?_nil, vx, Int.natCast_zero, Int.zero_add] at *
    cases b1 <;> simp only [Bool.not_true, Bool.not_false] at hlt
    all_goals
     refine zk Tryz.func86 rfl rfl ?_
     simp (disch := ((try simp only [LL]); omega)) only [↓GO, ↓DRW, GA, GX, ren, zo, za, refs, z8, cst, zr, isC, bin, una, z7, zd, blt, asArg, zg, zc, zf, z6, E.mkS, unN, ze, zq, zb, GS, simprocAttr, GZ, zi, c, hget, zn, hk, hlt, IH, Int.zero_add, zH]
  · have hprev : uS (strs ks) (((pre' ++ [q]).length : Int) - 1) = some [.str q] := by rw [hs]; exact tj (fun s => [T.str s]) pre' q (x :: rest)
    have hge : 1 ≤ (pre' ++ [q]).length := by simp
    have hgt : decide (((pre' ++ [q]).length : Int) > 0) = true := by simp only [decide_eq_true_eq]; omega
    have hcmp := pE x q
    rw [show (pre' ++ [q]).getLast? = some q by simp]
    simp only [vx]
    clear hs
    generalize (pre' ++ [q]).length = m at *
    cases b1 <;> simp only [Bool.not_true, Bool.not_false] at hlt <;> cases h2 : Op.bytesLess q x <;> rw [h2] at hcmp
    all_goals
     refine zk Tryz.func86 rfl rfl ?_
     simp (disch := ((try simp only [LL]); omega)) only [↓GO, ↓DRW, GA, GX, ren, zo, za, refs, z8, cst, zr, isC, bin, una, z7, zd, blt, asArg, zg, zc, zf, z6, E.mkS, unN, ze, zq, zb, GS, simprocAttr, GZ, zi, c, hget, zn, hk, hlt, hgt, hprev, hcmp, IH, zH]
theorem Zp (g : zx) (hB : GB g) (ks : List Str) (hl : ks.length ≤ 1048576) : zm (EV Tryz.prog pol) 86 [.agg (g.enc.map .t), .t (.list 1 (strs ks))] = some (.t (.bool (xx g.packs none ks))) := by
 have L := aM g hB ks hl ks [] rfl
 simp only [List.length_nil, Int.natCast_zero, List.getLast?_nil] at L
 simp only [zx.enc, List.map_cons, List.map_nil] at L ⊢
 cases h : xx g.packs none ks <;> rw [h] at L <;> simp only [cond_true, cond_false] at L
 all_goals
  apply zu
  refine zw rfl Tryz.func86 rfl (by kernel_rfl) ?_
  unfold Tryz.f86
  simp (disch := ((try simp only [LL]); omega)) only [↓GO, ↓DRW, GA, GX, ren, zo, za, refs, z8, cst, zr, isC, bin, una, z7, zd, blt, asArg, zg, zc, zf, z6, E.mkS, unN, ze, zq, zb, GS, simprocAttr, GZ, L, zi, zH]
theorem aL (g : zx) (hB : GB g) (ks : List Str) (hl : ks.length ≤ 1048576) : ∀ (rest pre : List Str), ks = pre ++ rest →
 EV Tryz.prog pol (.loop 84 26 0 [.t (.list 1 (strs ks)), .ptr 0 0 0, .t (.int .i64 (pre.length : Int))] [.vs 2 [g.enc.map .t]]) = some (cond (xx g.packs pre.getLast? rest) (.loop (.exit 0) [.bad] []) (.loop .ret [.t (.bool false)] []))
 | [], pre, hs => by
  have c : decide ((pre.length : Int) < (ks.length : Int)) = false := by simp [hs]
  simp only [zx.enc, List.map_cons, List.map_nil]
  refine zk Tryz.func84 rfl rfl ?_
  simp (disch := ((try simp only [LL]); omega)) only [↓GO, ↓DRW, GA, GX, ren, zo, za, refs, z8, cst, zr, isC, bin, una, z7, zd, blt, asArg, zg, zc, zf, z6, E.mkS, unN, ze, zq, zb, GS, simprocAttr, GZ, c, zi, xx, zH]
 | x :: rest, pre, hs => by
  have c : decide ((pre.length : Int) < (ks.length : Int)) = true := by simp [hs]; omega
  have hget : (strs ks)[pre.length]? = some [.str x] := by rw [hs]; exact wR pre x rest
  have hlen : pre.length + rest.length + 1 ≤ ks.length := by rw [hs]; simp; omega
  have IH := aL g hB ks hl rest (pre ++ [x]) (by rw [hs]; simp)
  have hk := Zr g x hB
  have hlt := UB (fun p => keyOf p == x) g.packs
  rw [show ((pre ++ [x]).length : Int) = (pre.length : Int) + 1 by simp, show (pre ++ [x]).getLast? = some x by simp] at IH
  rw [xx]
  unfold gj
  unfold rN at hk
  generalize ixI (xN (fun p => keyOf p == x) g.packs 0) = n at *
  generalize (g.packs.any fun p => keyOf p == x) = b1 at *
  simp only [zx.enc, List.map_cons, List.map_nil] at hk IH ⊢
  rcases w5 pre with rfl | ⟨pre', q, rfl⟩
  · clear hs
    simp only [List.length_nil, List.getLast?_nil, vx, Int.natCast_zero, Int.zero_add] at *
    cases b1 <;> simp only [Bool.not_true, Bool.not_false] at hlt
    all_goals
     refine zk Tryz.func84 rfl rfl ?_
     simp (disch := ((try simp only [LL]); omega)) only [↓GO, ↓DRW, GA, GX, ren, zo, za, refs, z8, cst, zr, isC, bin, una, z7, zd, blt, asArg, zg, zc, zf, z6, E.mkS, unN, ze, zq, zb, GS, simprocAttr, GZ, zi, c, hget, zn, hk, hlt, IH, Int.zero_add, zH]
  · have hprev : uS (strs ks) (((pre' ++ [q]).length : Int) - 1) = some [.str q] := by rw [hs]; exact tj (fun s => [T.str s]) pre' q (x :: rest)
    have hge : 1 ≤ (pre' ++ [q]).length := by simp
    have hgt : decide (((pre' ++ [q]).length : Int) > 0) = true := by simp only [decide_eq_true_eq]; omega
    rw [show (pre' ++ [q]).getLast? = some q by simp]
    simp only [vx]
    clear hs
    generalize (pre' ++ [q]).length = m at *
    cases b1 <;> simp only [Bool.not_true, Bool.not_false] at hlt <;> cases h2 : Op.bytesLess q x
    all_goals
     refine zk Tryz.func84 rfl rfl ?_
     simp (disch := ((try simp only [LL]); omega)) only [↓GO, ↓DRW, GA, GX, ren, zo, za, refs, z8, cst, zr, isC, bin, una, z7, zd, blt, asArg, zg, zc, zf, z6, E.mkS, unN, ze, zq, zb, GS, simprocAttr, GZ, zi, c, hget, zn, hk, hlt, hgt, hprev, h2, IH, zH]
theorem Zo (g : zx) (hB : GB g) (ks : List Str) (hl : ks.length ≤ 1048576) : zm (EV Tryz.prog pol) 84 [.agg (g.enc.map .t), .t (.list 1 (strs ks))] = some (.t (.bool (xx g.packs none ks))) := by
 have L := aL g hB ks hl ks [] rfl
 simp only [List.length_nil, Int.natCast_zero, List.getLast?_nil] at L
 simp only [zx.enc, List.map_cons, List.map_nil] at L ⊢
 cases h : xx g.packs none ks <;> rw [h] at L <;> simp only [cond_true, cond_false] at L
 all_goals
  apply zu
  refine zw rfl Tryz.func84 rfl (by kernel_rfl) ?_
  unfold Tryz.f84
  simp (disch := ((try simp only [LL]); omega)) only [↓GO, ↓DRW, GA, GX, ren, zo, za, refs, z8, cst, zr, isC, bin, una, z7, zd, blt, asArg, zg, zc, zf, z6, E.mkS, unN, ze, zq, zb, GS, simprocAttr, GZ, L, zi, zH]
end Go.Proofs.YtonbkdklidfmfaaGreatDoor
/- Is a graph right? By both. Conditions: those of each lemma. -/
namespace Go.Proofs.YtonbkdklidfmfaaGreatDoor
open E
set_option linter.unusedSimpArgs false
set_option linter.unusedVariables false
set_option maxRecDepth 100000
theorem mf {p : z1} {n : Nat} (h : p.zY ≤ n) : p.zC.length ≤ n ∧ ya p.zC ≤ n ∧ p.sums.length ≤ n ∧ zy.zJ p.sums ≤ n ∧ p.name.length ≤ n ∧ p.version.length ≤ n ∧ p.source.length ≤ n := by
 unfold z1.zY at h; omega
theorem Uv (g : zx) (hB : GB g) : ∀ (rest pre : List z1), g.packs = pre ++ rest →
 EV Tryz.prog pol (.loop 32 26 0 [.ptr 0 0 0, .t (.list 6 (z1.zh g.packs)), .t (.int .i64 (g.packs.length : Int)), .t (.int .i64 (pre.length : Int))] [.vs 2 [g.enc.map .t]]) = some (cond (xZ g.packs (pre.getLast?.map keyOf) rest) (.loop (.exit 0) [.ptr 0 0 0, .bad] [.vs 2 [g.enc.map .t]]) (.loop .ret [.ptr 0 0 0, .t (.bool false)] [.vs 2 [g.enc.map .t]]))
 | [], pre, hs => by
  have c : decide ((pre.length : Int) < (g.packs.length : Int)) = false := by simp [hs]
  simp only [zx.enc, List.map_cons, List.map_nil]
  refine zk Tryz.func32 rfl rfl ?_
  simp (disch := ((try simp only [LL]); omega)) only [↓GO, ↓DRW, GA, GX, ren, zo, za, refs, z8, cst, zr, isC, bin, una, z7, zd, blt, asArg, zg, zc, zf, z6, E.mkS, unN, ze, zq, zb, GS, simprocAttr, GZ, c, xZ, zH]
 | x :: rest, pre, hs => by
  obtain ⟨b1, b2, b3⟩ := hB.len
  have c : decide ((pre.length : Int) < (g.packs.length : Int)) = true := by simp [hs]; omega
  have hget : (z1.zh g.packs)[pre.length]? = some x.enc := by rw [hs]; exact pD z1.enc pre x rest
  have hlen : pre.length + rest.length + 1 ≤ g.packs.length := by rw [hs]; simp; omega
  have hxb := b3 x (by rw [hs]; simp)
  have IH := Uv g hB rest (pre ++ [x]) (by rw [hs]; simp)
  have h1 := Se x hxb
  have h2 := iZ x (by omega)
  have h3 := Zp g hB x.zC (mf hxb).1
  rw [show ((pre ++ [x]).length : Int) = (pre.length : Int) + 1 by simp, show (pre ++ [x]).getLast?.map keyOf = some (keyOf x) by simp] at IH
  rw [xZ]
  generalize ur x = a1 at *
  generalize xx g.packs none x.zC = a2 at *
  rcases w5 pre with rfl | ⟨pre', q, rfl⟩
  · clear hs
    generalize keyOf x = kx at *
    simp only [List.length_nil, List.getLast?_nil, Option.map_none, vx, Int.natCast_zero, Int.zero_add] at *
    simp only [zx.enc, z1.enc, List.map_cons, List.map_nil] at hget h1 h2 h3 IH ⊢
    cases a1 <;> cases a2
    all_goals
     refine zk Tryz.func32 rfl rfl ?_
     simp (disch := ((try simp only [LL]); omega)) only [↓GO, ↓DRW, GA, GX, ren, zo, za, refs, z8, cst, zr, isC, bin, una, z7, zd, blt, asArg, zg, zc, zf, z6, E.mkS, unN, ze, zq, zb, GS, simprocAttr, GZ, z1.zj, c, hget, zn, h1, h2, h3, IH, Int.zero_add, zH]
  · have hprev : uS (z1.zh g.packs) (((pre' ++ [q]).length : Int) - 1) = some q.enc := by rw [hs]; exact tj z1.enc pre' q (x :: rest)
    have h4 := iZ q (by have := b3 q (by rw [hs]; simp); omega)
    have hge : 1 ≤ (pre' ++ [q]).length := by simp
    have hgt : decide (((pre' ++ [q]).length : Int) > 0) = true := by simp only [decide_eq_true_eq]; omega
    have hcmp := pE (keyOf x) (keyOf q)
    rw [show (pre' ++ [q]).getLast?.map keyOf = some (keyOf q) by simp]
    simp only [vx]
    clear hs
    generalize (pre' ++ [q]).length = m at *
    generalize keyOf x = kx at *
    generalize keyOf q = kq at *
    simp only [zx.enc, z1.enc, List.map_cons, List.map_nil] at hget hprev h1 h2 h3 h4 IH ⊢
    cases a1 <;> cases a2 <;> cases h5 : Op.bytesLess kq kx <;> rw [h5] at hcmp
    all_goals
     refine zk Tryz.func32 rfl rfl ?_
     simp (disch := ((try simp only [LL]); omega)) only [↓GO, ↓DRW, GA, GX, ren, zo, za, refs, z8, cst, zr, isC, bin, una, z7, zd, blt, asArg, zg, zc, zf, z6, E.mkS, unN, ze, zq, zb, GS, simprocAttr, GZ, z1.zj, c, hget, zn, h1, h2, h3, h4, hgt, hprev, hcmp, IH, zH]
theorem sW (g : zx) (hB : GB g) : zm (EV Tryz.prog pol) 32 [.agg (g.enc.map .t)] = some (.t (.bool (ym g))) := by
 have L := Uv g hB g.packs [] rfl
 have h3 := Zp g hB g.top (by have := hB.len; omega)
 simp only [List.length_nil, Int.natCast_zero, List.getLast?_nil, Option.map_none] at L
 simp only [zx.enc, List.map_cons, List.map_nil] at L h3 ⊢
 unfold ym
 generalize xx g.packs none g.top = a2 at *
 cases h : xZ g.packs none g.packs <;> rw [h] at L <;> simp only [cond_true, cond_false] at L <;> cases h4 : decide ((g.packs.length : Int) ≤ 40) <;> cases a2
 all_goals
  apply zu
  refine zw rfl Tryz.func32 rfl (by kernel_rfl) ?_
  unfold Tryz.f32
  simp (disch := ((try simp only [LL]); omega)) only [↓GO, ↓DRW, GA, GX, ren, zo, za, refs, z8, cst, zr, isC, bin, una, z7, zd, blt, asArg, zg, zc, zf, z6, E.mkS, unN, ze, zq, zb, GS, simprocAttr, GZ, L, z1.zj, h3, h4, zH]
theorem Uu (g : zx) (hB : GB g) : ∀ (rest pre : List z1), g.packs = pre ++ rest →
 EV Tryz.prog pol (.loop 31 26 0 [.ptr 0 0 0, .t (.int .i64 (pre.length : Int))] [.vs 2 [g.enc.map .t]]) = some (cond (xZ g.packs (pre.getLast?.map keyOf) rest) (.loop (.exit 0) [.ptr 0 0 0, .bad] [.vs 2 [g.enc.map .t]]) (.loop .ret [.ptr 0 0 0, .t (.bool false)] [.vs 2 [g.enc.map .t]]))
 | [], pre, hs => by
  have c : decide ((pre.length : Int) < (g.packs.length : Int)) = false := by simp [hs]
  simp only [zx.enc, List.map_cons, List.map_nil]
  refine zk Tryz.func31 rfl rfl ?_
  simp (disch := ((try simp only [LL]); omega)) only [↓GO, ↓DRW, GA, GX, ren, zo, za, refs, z8, cst, zr, isC, bin, una, z7, zd, blt, asArg, zg, zc, zf, z6, E.mkS, unN, ze, zq, zb, GS, simprocAttr, GZ, c, z1.zj, xZ, zH]
 | x :: rest, pre, hs => by
  obtain ⟨b1, b2, b3⟩ := hB.len
  have c : decide ((pre.length : Int) < (g.packs.length : Int)) = true := by simp [hs]; omega
  have hget : (z1.zh g.packs)[pre.length]? = some x.enc := by rw [hs]; exact pD z1.enc pre x rest
  have hlen : pre.length + rest.length + 1 ≤ g.packs.length := by rw [hs]; simp; omega
  have hxb := b3 x (by rw [hs]; simp)
  have IH := Uu g hB rest (pre ++ [x]) (by rw [hs]; simp)
  have h1 := Sd x hxb
  have h2 := oB x (by omega)
  have h3 := Zo g hB x.zC (mf hxb).1
  rw [show ((pre ++ [x]).length : Int) = (pre.length : Int) + 1 by simp, show (pre ++ [x]).getLast?.map keyOf = some (keyOf x) by simp] at IH
  rw [xZ]
  generalize ur x = a1 at *
  generalize xx g.packs none x.zC = a2 at *
  rcases w5 pre with rfl | ⟨pre', q, rfl⟩
  · clear hs
    generalize keyOf x = kx at *
    simp only [List.length_nil, List.getLast?_nil, Option.map_none, vx, Int.natCast_zero, Int.zero_add] at *
    simp only [zx.enc, z1.enc, List.map_cons, List.map_nil] at hget h1 h2 h3 IH ⊢
    cases a1 <;> cases a2
    all_goals
     refine zk Tryz.func31 rfl rfl ?_
     simp (disch := ((try simp only [LL]); omega)) only [↓GO, ↓DRW, GA, GX, ren, zo, za, refs, z8, cst, zr, isC, bin, una, z7, zd, blt, asArg, zg, zc, zf, z6, E.mkS, unN, ze, zq, zb, GS, simprocAttr, GZ, z1.zj, c, hget, zn, h1, h2, h3, IH, Int.zero_add, zH]
  · have hprev : uS (z1.zh g.packs) (((pre' ++ [q]).length : Int) - 1) = some q.enc := by rw [hs]; exact tj z1.enc pre' q (x :: rest)
    have h4 := oB q (by have := b3 q (by rw [hs]; simp); omega)
    have hge : 1 ≤ (pre' ++ [q]).length := by simp
    have hgt : decide (((pre' ++ [q]).length : Int) > 0) = true := by simp only [decide_eq_true_eq]; omega
    rw [show (pre' ++ [q]).getLast?.map keyOf = some (keyOf q) by simp]
    simp only [vx]
    clear hs
    generalize (pre' ++ [q]).length = m at *
    generalize keyOf x = kx at *
    generalize keyOf q = kq at *
    simp only [zx.enc, z1.enc, List.map_cons, List.map_nil] at hget hprev h1 h2 h3 h4 IH ⊢
    cases a1 <;> cases a2 <;> cases h5 : Op.bytesLess kq kx
    all_goals
     refine zk Tryz.func31 rfl rfl ?_
     simp (disch := ((try simp only [LL]); omega)) only [↓GO, ↓DRW, GA, GX, ren, zo, za, refs, z8, cst, zr, isC, bin, una, z7, zd, blt, asArg, zg, zc, zf, z6, E.mkS, unN, ze, zq, zb, GS, simprocAttr, GZ, z1.zj, c, hget, zn, h1, h2, h3, h4, hgt, hprev, h5, IH, zH]
theorem hU (g : zx) (hB : GB g) : zm (EV Tryz.prog pol) 31 [.agg (g.enc.map .t)] = some (.t (.bool (ym g))) := by
 have L := Uu g hB g.packs [] rfl
 have h3 := Zo g hB g.top (by have := hB.len; omega)
 simp only [List.length_nil, Int.natCast_zero, List.getLast?_nil, Option.map_none] at L
 simp only [zx.enc, List.map_cons, List.map_nil] at L h3 ⊢
 unfold ym
 generalize xx g.packs none g.top = a2 at *
 cases h : xZ g.packs none g.packs <;> rw [h] at L <;> simp only [cond_true, cond_false] at L <;> cases h4 : decide ((g.packs.length : Int) ≤ 40) <;> cases a2
 all_goals
  apply zu
  refine zw rfl Tryz.func31 rfl (by kernel_rfl) ?_
  unfold Tryz.f31
  simp (disch := ((try simp only [LL]); omega)) only [↓GO, ↓DRW, GA, GX, ren, zo, za, refs, z8, cst, zr, isC, bin, una, z7, zd, blt, asArg, zg, zc, zf, z6, E.mkS, unN, ze, zq, zb, GS, simprocAttr, GZ, L, z1.zj, h3, h4, zH]
end Go.Proofs.YtonbkdklidfmfaaGreatDoor
/- The tables of a graph, plain. Conditions: none. -/
namespace Go.Proofs.YtonbkdklidfmfaaGreatDoor
open E
set_option linter.unusedVariables false
set_option linter.unusedSimpArgs false
set_option maxRecDepth 100000
/-- the last place of a byte below a place -/
def uM (b : UInt8) (s : Str) : Nat → Option Nat
 | 0 => none
 | n + 1 => if s[n]? = some b then some n else uM b s n
theorem en (b : UInt8) (s : Str) : ∀ (n k : Nat), uM b s n = some k → k < n
 | 0, k, h => by cases h
 | n + 1, k, h => by
  unfold uM at h
  split at h
  · cases h; omega
  · have := en b s n k h; omega
def vD (k : Str) : Str × Str := match uM 64 k k.length with
 | some n => (k.take n, k.drop (n + 1))
 | none => ([], [])
end Go.Proofs.YtonbkdklidfmfaaGreatDoor

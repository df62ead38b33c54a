/- Joined: V11 K25 I4 V12 G5 V13 K32 K36 V14 K26 K37 K38. Conditions: those of each lemma. -/
import Derived.Test.YtonbkdklidfmfaaGreatDoorlK
import Derived.Test.YtonbkdklidfmfaaGreatDoorlI
import Derived.Test.YtonbkdklidfmfaaGreatDoorlJ
set_option linter.unusedVariables false
set_option linter.unusedSimpArgs false
namespace Go.Proofs.YtonbkdklidfmfaaGreatDoor
open E
set_option linter.unusedVariables false
set_option linter.unusedSimpArgs false
set_option maxRecDepth 100000
def wB : List Str → Str → Nat
 | [], _ => 0
 | x :: r, s => cond (Op.bytesLess x s) (wB r s + 1) 0
/-- does it stand at its place? -/
def atS (l : List Str) (s : Str) : Bool := l[wB l s]? == some s
theorem aH : ∀ (l : List Str) (s : Str), wB l s ≤ l.length
 | [], s => by simp [wB]
 | x :: r, s => by
  have := aH r s
  rw [wB]
  cases Op.bytesLess x s with
  | true => simp only [cond_true, List.length_cons]; omega
  | false => simp
theorem ZT : ∀ (l : List Str) (s : Str), atS l s = false → xS l s = l.take (wB l s) ++ s :: l.drop (wB l s)
 | [], s, h => by simp [xS, wB]
 | x :: r, s, h => by
  unfold atS at h
  rw [wB] at h ⊢
  rw [xS]
  cases h1 : Op.bytesLess x s with
  | true =>
   rw [h1, cond_true, List.getElem?_cons_succ] at h
   simp only [cond_true, List.take_succ_cons, List.drop_succ_cons, List.cons_append]
   rw [ZT r s h]
  | false =>
   rw [h1, cond_false] at h
   have : (x == s) = false := by simpa using h
   simp [this]
theorem SB {l : List Str} {s : Str} (h : yi l s = false) : atS l s = false := by
 cases ha : atS l s with
 | false => rfl
 | true =>
  unfold atS at ha
  have : l[wB l s]? = some s := by simpa using ha
  have hm := List.mem_of_getElem? this
  unfold yi at h
  rw [List.any_eq_false] at h
  exact absurd (by simp) (h s hm)
theorem kZ (a v : Str) (hv : (64 : UInt8) ∉ v) : ∀ n, n ≤ v.length → uQ 64 (a ++ 64 :: v) (a.length + 1 + n) = some a.length
 | 0, _ => by simp [uQ]
 | n + 1, hn => by
  have e : (a ++ 64 :: v)[a.length + 1 + n]? = v[n]? := by
   rw [List.getElem?_append_right (by omega), show a.length + 1 + n - a.length = n + 1 by omega, List.getElem?_cons_succ]
  have ne : ¬ (v[n]? = some 64) := fun h => hv (List.mem_of_getElem? h)
  rw [show a.length + 1 + (n + 1) = (a.length + 1 + n) + 1 by omega, uQ, e, if_neg ne]
  exact kZ a v hv n (by omega)
theorem jN (a v : Str) (hv : (64 : UInt8) ∉ v) : vH ((a ++ [64]) ++ v) = (a, v) := by
 have h := kZ a v hv v.length (Nat.le_refl _)
 unfold vH
 rw [show (a ++ [64]) ++ v = a ++ 64 :: v by simp, show (a ++ 64 :: v).length = a.length + 1 + v.length by simp; omega, h]
 simp
theorem Wn {v : Str} (h : (wV v).isSome = true) : (64 : UInt8) ∉ v := by
 intro hm
 have h1 := Qg (c := 64) (by decide) hm
 rw [V2 h1] at h
 cases h
theorem gE {p : z1} (h : uz p = true) : vH (keyOf p) = (p.name, p.version) := by
 unfold uz at h
 simp only [Bool.and_eq_true] at h
 exact jN p.name p.version (Wn h.2.1)
theorem oM (ps : List z1) : ∀ (o : Option Str) (l : List z1), w9 ps o l = true → ∀ p ∈ l, uz p = true ∧ xz ps none p.zz = true
 | _, [], _, p, hp => by simp at hp
 | o, q :: r, h, p, hp => by
  rw [w9] at h
  simp only [Bool.and_eq_true] at h
  rcases List.mem_cons.1 hp with rfl | hp
  · exact ⟨h.1.1, h.1.2.2⟩
  · exact oM ps _ r h.2 p hp
theorem tX (ps : List z1) : ∀ (o : Option Str) (l : List Str), xz ps o l = true → (l.Pairwise fun x y => Op.bytesLess x y = true) ∧ (∀ k ∈ l, gA ps k = true) ∧ ∀ k ∈ l, vB o k = true
 | o, [], _ => by simp
 | o, k :: r, h => by
  rw [xz] at h
  simp only [Bool.and_eq_true] at h
  obtain ⟨h1, h2, h3⟩ := tX ps (some k) r h.2
  refine ⟨List.pairwise_cons.2 ⟨fun y hy => h3 y hy, h1⟩, fun y hy => ?_, fun y hy => ?_⟩
  · rcases List.mem_cons.1 hy with rfl | hy
    · exact h.1.1
    · exact h2 y hy
  · rcases List.mem_cons.1 hy with rfl | hy
    · exact h.1.2
    · cases o with
      | none => rfl
      | some q => exact wu h.1.2 (h3 y hy)
/-- what is reached in a graph -/
def yc (ps : List z1) (w : List Str) : List Str := yq xS ps (w.length + muS ps []) [] w
theorem uJ {g : zx} (h : y6 g = true) : ∀ p ∈ g.packs, uz p = true ∧ xz g.packs none p.zz = true := by
 unfold y6 at h
 simp only [Bool.and_eq_true] at h
 exact oM g.packs none g.packs h.1
/-- how many are not there yet -/
def uP (ps : List z1) (out : List Str) : Nat := ps.countP fun p => !(yi out (keyOf p))
theorem eE (k : Str) (out out' : List Str) (h : ∀ s, yi out' s = (yi out s || (k == s))) : ∀ ps : List z1, uP ps out' ≤ uP ps out
 | [] => by simp [uP]
 | p :: ps => by
  have ih := eE k out out' h ps
  unfold uP at ih ⊢
  simp only [List.countP_cons]
  rw [h (keyOf p)]
  cases yi out (keyOf p) <;> cases (k == keyOf p) <;> simp <;> omega
theorem tW (k : Str) (out out' : List Str) (h : ∀ s, yi out' s = (yi out s || (k == s))) (hk : yi out k = false) : ∀ (ps : List z1) (p : z1), p ∈ ps → keyOf p = k → uP ps out' + 1 ≤ uP ps out
 | [], p, hp, _ => by simp at hp
 | q :: ps, p, hp, e => by
  rcases List.mem_cons.1 hp with rfl | hp
  · have h1 := eE k out out' h ps
    unfold uP at h1 ⊢
    simp only [List.countP_cons]
    rw [h (keyOf p), e, hk, beq_self_eq_true]
    simp
    omega
  · have h1 := tW k out out' h hk ps p hp e
    unfold uP at h1 ⊢
    simp only [List.countP_cons]
    rw [h (keyOf q)]
    cases yi out (keyOf q) <;> cases (k == keyOf q) <;> simp <;> omega
theorem pD : ∀ (l : List Str) (k s : Str), yi (xS l k) s = (yi l s || (k == s))
 | [], k, s => by simp [xS, yi]
 | x :: r, k, s => by
  have ih := pD r k s
  unfold yi at ih ⊢
  rw [xS]
  cases h1 : Op.bytesLess x k with
  | true => simp only [cond_true, List.any_cons, ih, Bool.or_assoc]
  | false =>
   simp only [cond_false]
   cases h2 : (x == k) with
   | true =>
    have : x = k := by simpa using h2
    subst this
    simp only [cond_true, List.any_cons]
    cases (x == s) <;> simp
   | false =>
    simp only [cond_false, List.any_cons]
    cases (k == s) <;> cases (x == s) <;> simp
end Go.Proofs.YtonbkdklidfmfaaGreatDoor
/- What one reaches, by both: the functions. Conditions: those of each lemma. -/
namespace Go.Proofs.YtonbkdklidfmfaaGreatDoor
open E
set_option linter.unusedSimpArgs false
set_option linter.unusedVariables false
set_option maxRecDepth 100000
theorem v7 {l : List Str} {i : Nat} {s : Str} (h : l[i]? = some s) : (strs l)[i]? = some [.str s] := by simp [strs, h]
theorem Rx (l : List Str) (hl : l.length ≤ 1048576) (s : Str) : ∀ (rest pre : List Str), l = pre ++ rest →
 EV Tryz.prog pol (.loop 81 26 0 [.t (.list 1 (strs l)), .t (.str s), .t (.int .i64 (pre.length : Int))] []) = some (cond (yi rest s) (.loop .ret [.t (.bool true)] []) (.loop (.exit 0) [.bad] []))
 | [], pre, h => by
  have c : decide ((pre.length : Int) < (l.length : Int)) = false := by simp [h]
  rw [show yi [] s = false from rfl, cond_false]
  refine zk Tryz.func81 rfl rfl ?_
  simp (disch := ((try simp only [LL]); omega)) only [↓GO, ↓DRW, GA, GX, ren, zn, za, refs, z8, cst, zr, isC, bin, una, z7, zd, blt, asArg, zg, zc, zf, z6, E.mkS, unN, ze, zq, zb, GS, simprocAttr, GZ, c, zh, zF]
 | x :: rest, pre, h => by
  have c : decide ((pre.length : Int) < (l.length : Int)) = true := by simp [h]; omega
  have hget : (strs l)[pre.length]? = some [.str x] := v7 (by rw [h]; simp)
  have hlen : pre.length + rest.length + 1 ≤ l.length := by rw [h]; simp; omega
  have IH := Rx l hl s rest (pre ++ [x]) (by rw [h]; simp)
  rw [show ((pre ++ [x]).length : Int) = (pre.length : Int) + 1 by simp] at IH
  rw [show yi (x :: rest) s = ((x == s) || yi rest s) from rfl]
  clear h
  cases q : (x == s) with
  | true =>
   simp only [Bool.true_or, cond_true]
   refine zk Tryz.func81 rfl rfl ?_
   simp (disch := ((try simp only [LL]); omega)) only [↓GO, ↓DRW, GA, GX, ren, zn, za, refs, z8, cst, zr, isC, bin, una, z7, zd, blt, asArg, zg, zc, zf, z6, E.mkS, unN, ze, zq, zb, GS, simprocAttr, GZ, c, hget, zh, q, zo, zF]
  | false =>
   simp only [Bool.false_or]
   refine zk Tryz.func81 rfl rfl ?_
   simp (disch := ((try simp only [LL]); omega)) only [↓GO, ↓DRW, GA, GX, ren, zn, za, refs, z8, cst, zr, isC, bin, una, z7, zd, blt, asArg, zg, zc, zf, z6, E.mkS, unN, ze, zq, zb, GS, simprocAttr, GZ, c, hget, zh, q, zo, zF, IH]
theorem Yc (l : List Str) (hl : l.length ≤ 1048576) (s : Str) : zm (EV Tryz.prog pol) 81 [.t (.list 1 (strs l)), .t (.str s)] = some (.t (.bool (yi l s))) := by
 have L := Rx l hl s l [] rfl
 simp only [List.length_nil, Int.natCast_zero] at L
 cases q : yi l s <;> rw [q] at L <;> simp only [cond_true, cond_false] at L
 all_goals
  apply zu
  refine zw rfl Tryz.func81 rfl (by kernel_rfl) ?_
  unfold Tryz.f81
  simp (disch := ((try simp only [LL]); omega)) only [↓GO, ↓DRW, GA, GX, ren, zn, za, refs, z8, cst, zr, isC, bin, una, z7, zd, blt, asArg, zg, zc, zf, z6, E.mkS, unN, ze, zq, zb, GS, simprocAttr, GZ, L, zh, zF]
theorem RF (l : List Str) (hl : l.length ≤ 1073741824) (s : Str) (n : Nat) (hn : n = l.length) (cap : Option Nat) : ∀ (rest pre : List Str), l = pre ++ rest →
 EV Tryz.prog pol (.loop 68 28 1 [.sl 0 0 n cap, .t (.str s), .t (.int .i64 (pre.length : Int))] [.ts 1 (strs l)]) = some (.loop (.exit 0) [.sl 0 0 n cap, .t (.str s), .t (.int .i64 ((pre.length + wB rest s : Nat) : Int))] [.ts 1 (strs l)])
 | [], pre, h => by
  have c : decide ((pre.length : Int) < (n : Int)) = false := by simp [hn, h]
  rw [show wB [] s = 0 from rfl, Nat.add_zero]
  refine zk Tryz.func68 rfl rfl ?_
  simp (disch := ((try simp only [LL]); omega)) only [↓GO, ↓DRW, GA, GX, ren, zn, za, refs, z8, cst, zr, isC, bin, una, z7, zd, blt, asArg, zg, zc, zf, z6, E.mkS, unN, ze, zq, zb, GS, simprocAttr, GZ, c, zF]
 | x :: rest, pre, h => by
  have c : decide ((pre.length : Int) < (n : Int)) = true := by simp [hn, h]; omega
  have c0 : decide ((0 : Int) ≤ (pre.length : Int)) = true := by simp
  have hget : (strs l)[pre.length]? = some [.str x] := v7 (by rw [h]; simp)
  have hlen : pre.length + rest.length + 1 ≤ l.length := by rw [h]; simp; omega
  have IH := RF l hl s n hn cap rest (pre ++ [x]) (by rw [h]; simp)
  rw [show ((pre ++ [x]).length : Int) = (pre.length : Int) + 1 by simp, show (pre ++ [x]).length + wB rest s = pre.length + (wB rest s + 1) by simp; omega] at IH
  rw [wB]
  clear h
  cases q : Op.bytesLess x s with
  | true =>
   simp only [cond_true]
   refine zk Tryz.func68 rfl rfl ?_
   simp (disch := ((try simp only [LL]); omega)) only [↓GO, ↓DRW, GA, GX, ren, zn, za, refs, z8, cst, zr, isC, bin, una, z7, zd, blt, asArg, zg, zc, zf, z6, E.mkS, unN, ze, zq, zb, GS, simprocAttr, GZ, c, c0, hget, q, zo, zF, IH]
  | false =>
   simp only [cond_false, Nat.add_zero]
   refine zk Tryz.func68 rfl rfl ?_
   simp (disch := ((try simp only [LL]); omega)) only [↓GO, ↓DRW, GA, GX, ren, zn, za, refs, z8, cst, zr, isC, bin, una, z7, zd, blt, asArg, zg, zc, zf, z6, E.mkS, unN, ze, zq, zb, GS, simprocAttr, GZ, c, c0, hget, q, zo, zF]
theorem QI (l : List Str) (hl : l.length ≤ 1073741824) (s : Str) (n : Nat) (hn : n = l.length) (cap : Option Nat) (h : atS l s = false) : EV Tryz.prog pol (.callO false 68 [.sl 0 0 n cap, .t (.str s)] [.ts 1 (strs l)]) = some (.call (.sl 1 0 (n + 1) none) [.ts 1 (strs l), .ts 1 (strs (xS l s))]) := by
 have L := RF l hl s n hn cap l [] rfl
 simp only [List.length_nil, Int.natCast_zero, Nat.zero_add] at L
 rw [ZT l s h]
 have hp := aH l s
 unfold atS at h
 have c0 : decide ((0 : Int) ≤ ((wB l s : Nat) : Int)) = true := by simp
 have hsl : (strs l).length = n := by rw [zh, hn]
 have e : strs (l.take (wB l s) ++ s :: l.drop (wB l s)) = ((strs l).take (wB l s) ++ [[.str s]]) ++ (strs l).drop (wB l s) := by simp [strs]
 rw [e]
 have hA1 : ((strs l).take (wB l s)).length = wB l s := by rw [List.length_take, hsl]; omega
 have hB0 : ((strs l).drop (wB l s)).take (n - wB l s) = (strs l).drop (wB l s) := List.take_of_length_le (by rw [List.length_drop, hsl]; omega)
 have hB1 : ((strs l).drop (wB l s)).length = n - wB l s := by rw [List.length_drop, hsl]
 have hE : wB l s + 1 + (n - wB l s) = n + 1 := by omega
 rw [← hn] at hp
 have hnl : n ≤ 1073741824 := by omega
 cases hx : l[wB l s]? with
 | none =>
  have hlt : l.length ≤ wB l s := List.getElem?_eq_none_iff.1 hx
  have c : decide (((wB l s : Nat) : Int) < (n : Int)) = false := by rw [hn]; simpa using hlt
  clear h hx e
  generalize wB l s = p at *
  generalize hA : (strs l).take p = A at *
  generalize hB : (strs l).drop p = B at *
  have hC : (A ++ [[T.str s]]).length = p + 1 := by simp [hA1]
  refine zN Tryz.func68 rfl (by kernel_rfl) ?_
  unfold Tryz.f68
  simp (disch := ((try simp only [LL]); omega)) only [↓GO, ↓DRW, GA, GX, ren, zn, za, refs, z8, cst, zr, isC, bin, una, z7, zd, blt, asArg, zg, zc, zf, z6, E.mkS, unN, ze, zq, zb, GS, simprocAttr, GZ, L, c, c0, hsl, Nat.sub_zero, hA, hA1, hC, hB, hB0, hB1, hE, List.nil_append, Nat.zero_add, zF, yY]
  refine yQ (by kernel_rfl) ?_
  rfl
 | some x =>
  rw [hx] at h
  have q : (x == s) = false := by simpa using h
  have hget := v7 hx
  have hlt : wB l s < l.length := (List.getElem?_eq_some_iff.1 hx).1
  have c : decide (((wB l s : Nat) : Int) < (n : Int)) = true := by rw [hn]; simpa using hlt
  clear h hx e
  generalize wB l s = p at *
  generalize hA : (strs l).take p = A at *
  generalize hB : (strs l).drop p = B at *
  have hC : (A ++ [[T.str s]]).length = p + 1 := by simp [hA1]
  refine zN Tryz.func68 rfl (by kernel_rfl) ?_
  unfold Tryz.f68
  simp (disch := ((try simp only [LL]); omega)) only [↓GO, ↓DRW, GA, GX, ren, zn, za, refs, z8, cst, zr, isC, bin, una, z7, zd, blt, asArg, zg, zc, zf, z6, E.mkS, unN, ze, zq, zb, GS, simprocAttr, GZ, L, c, c0, hget, q, hsl, Nat.sub_zero, hA, hA1, hC, hB, hB0, hB1, hE, List.nil_append, Nat.zero_add, zF, yY]
  refine yQ (by kernel_rfl) ?_
  rfl
theorem Zi (k : Str) : ∀ (r : List Str) (i : Nat), decide (ixS k i r ≥ 0) = yi r k
 | [], i => rfl
 | x :: r, i => by
  rw [ixS, show yi (x :: r) k = ((x == k) || yi r k) from rfl]
  cases (x == k) with
  | true => simp
  | false => simp only [cond_false, Bool.false_or]; exact Zi k r (i + 1)
theorem RU (l : List Str) (hl : l.length ≤ 1048576) (s : Str) : zm (EV Tryz.prog pol) 78 [.t (.list 1 (strs l)), .t (.str s)] = some (.t (.bool (yi l s))) := by
 have h1 := c_ix s l hl
 have h2 := Zi s l 0
 apply zu
 refine zw rfl Tryz.func78 rfl (by kernel_rfl) ?_
 unfold Tryz.f78
 simp (disch := ((try simp only [LL]); omega)) only [↓GO, ↓DRW, GA, GX, ren, zn, za, refs, z8, cst, zr, isC, bin, una, z7, zd, blt, asArg, zg, zc, zf, z6, E.mkS, unN, ze, zq, zb, GS, simprocAttr, GZ, h1, h2, zF]
end Go.Proofs.YtonbkdklidfmfaaGreatDoor
/- slices.IndexFunc at texts. Conditions: those of each lemma. -/
namespace Go.Proofs.YtonbkdklidfmfaaGreatDoor
open E
set_option linter.unusedSimpArgs false
set_option linter.unusedVariables false
set_option maxRecDepth 100000
theorem qa (g : Nat) (caps : List T) (p : Str → Bool) (es : List Str) (hl : es.length ≤ 4611686018427387904) (hp : ∀ x ∈ es, zm (EV Tryz.prog pol) g (.t (.str x) :: caps.map .t) = some (.t (.bool (p x)))) : ∀ (rest pre : List Str), es = pre ++ rest →
 EV Tryz.prog pol (.loop 96 26 0 [.t (.list 1 (strs es)), .t (.fn g caps), .t (.int .i64 (es.length : Int)), .t (.int .i64 (pre.length : Int))] []) = some (match xR p rest pre.length with | some i => .loop .ret [.t (.int .i64 (i : Int))] [] | none => .loop (.exit 0) [.bad] [])
 | [], pre, hs => by
  have c : decide ((pre.length : Int) < (es.length : Int)) = false := by simp [hs]
  refine zk Tryz.func96 rfl rfl ?_
  simp only [↓GO, ↓DRW, GA, GX, ren, zn, za, refs, z8, cst, zr, isC, bin, una, z7, zd, blt, asArg, zg, zc, zf, z6, E.mkS, unN, ze, zq, zb, GS, simprocAttr, c, xR]
 | b :: rest, pre, hs => by
  have c : decide ((pre.length : Int) < (es.length : Int)) = true := by simp [hs]; omega
  have hi : pre.length < es.length := by rw [hs]; simp
  have hget := wi es pre.length hi
  have hgb : es[pre.length] = b := by simp [hs]
  rw [hgb] at hget
  have hb := hp b (by rw [hs]; simp)
  have e1 : (pre.length : Int) + 1 = ((pre ++ [b]).length : Int) := by simp
  have IH := qa g caps p es hl hp rest (pre ++ [b]) (by rw [hs]; simp)
  refine zk Tryz.func96 rfl rfl ?_
  simp only [xR]
  cases hpb : p b with
  | true =>
   rw [hpb] at hb
   simp (disch := omega) only [↓GO, ↓DRW, GA, GX, ren, zn, za, refs, z8, cst, zr, isC, bin, una, z7, zd, blt, asArg, zg, zc, zf, z6, E.mkS, unN, ze, zq, zb, GS, simprocAttr, zh, c, hget, zo, hb]
  | false =>
   rw [hpb] at hb
   simp (disch := omega) only [↓GO, ↓DRW, GA, GX, ren, zn, za, refs, z8, cst, zr, isC, bin, una, z7, zd, blt, asArg, zg, zc, zf, z6, E.mkS, unN, ze, zq, zb, GS, simprocAttr, zh, c, hget, zo, hb]
   rw [e1, IH]
   simp
theorem lZ (g : Nat) (caps : List T) (p : Str → Bool) (es : List Str) (hl : es.length ≤ 4611686018427387904) (hp : ∀ x ∈ es, zm (EV Tryz.prog pol) g (.t (.str x) :: caps.map .t) = some (.t (.bool (p x)))) :
 zm (EV Tryz.prog pol) 96 [.t (.list 1 (strs es)), .t (.fn g caps)] = some (.t (.int .i64 (ixI (xR p es 0)))) := by
 have IH := qa g caps p es hl hp es [] rfl
 simp only [List.length_nil, Int.natCast_zero] at IH
 apply zu
 refine zw rfl Tryz.func96 rfl (by kernel_rfl) ?_
 unfold Tryz.f96
 cases hf : xR p es 0 with
 | none => rw [hf] at IH; simp only [↓GO, ↓DRW, GA, GX, ren, zn, za, refs, z8, cst, zr, isC, bin, una, z7, zd, blt, asArg, zg, zc, zf, z6, E.mkS, unN, ze, zq, zb, GS, simprocAttr, zh, IH, ixI]
 | some i => rw [hf] at IH; simp only [↓GO, ↓DRW, GA, GX, ren, zn, za, refs, z8, cst, zr, isC, bin, una, z7, zd, blt, asArg, zg, zc, zf, z6, E.mkS, unN, ze, zq, zb, GS, simprocAttr, zh, IH, ixI]
end Go.Proofs.YtonbkdklidfmfaaGreatDoor
/- Versions in order, plain: one order, all that is sorted is the same. Conditions: none. -/
namespace Go.Proofs.YtonbkdklidfmfaaGreatDoor
open E
set_option linter.unusedVariables false
set_option linter.unusedSimpArgs false
set_option maxRecDepth 100000
structure Cmp {α : Type} (p : α → Prop) (c : α → α → Int) : Prop where
 anti : ∀ x y, p x → p y → c y x = - c x y
 trans : ∀ x y z, p x → p y → p z → c x y < 0 → c y z < 0 → c x z < 0
 sep : ∀ x y, p x → p y → c x y = 0 → x = y
theorem Cmp.refl {α : Type} {p : α → Prop} {c : α → α → Int} (h : Cmp p c) {x : α} (hx : p x) : c x x = 0 := by
 have := h.anti x x hx hx; omega
theorem Cmp.RH {α β : Type} {p : β → Prop} {c : β → β → Int} (h : Cmp p c) (f : α → β) (q : α → Prop) (hp : ∀ x, q x → p (f x)) (hi : ∀ x y, q x → q y → f x = f y → x = y) : Cmp q fun x y => c (f x) (f y) :=
 ⟨fun x y hx hy => h.anti _ _ (hp x hx) (hp y hy), fun x y z hx hy hz => h.trans _ _ _ (hp x hx) (hp y hy) (hp z hz), fun x y hx hy e => hi x y hx hy (h.sep _ _ (hp x hx) (hp y hy) e)⟩
theorem Cmp.lex {α β : Type} {p : α → Prop} {q : β → Prop} {c : α → α → Int} {d : β → β → Int} (h : Cmp p c) (k : Cmp q d) : Cmp (fun x : α × β => p x.1 ∧ q x.2) fun x y => cond (c x.1 y.1 == 0) (d x.2 y.2) (c x.1 y.1) := by
 refine ⟨fun x y hx hy => ?_, fun x y z hx hy hz h1 h2 => ?_, fun x y hx hy e => ?_⟩
 · have ha := h.anti x.1 y.1 hx.1 hy.1
   cases hc : (c x.1 y.1 == 0) with
   | true =>
    have h0 : c x.1 y.1 = 0 := by simpa using hc
    rw [ha, h0, show ((-0 : Int) == 0) = true from rfl, cond_true, cond_true]
    exact k.anti _ _ hx.2 hy.2
   | false =>
    have h0 : c x.1 y.1 ≠ 0 := by simpa using hc
    have h1 : (c y.1 x.1 == 0) = false := by rw [beq_eq_false_iff_ne, ha]; omega
    rw [h1, cond_false, cond_false, ha]
 · cases hxy : (c x.1 y.1 == 0) with
   | true =>
    have e1 := h.sep _ _ hx.1 hy.1 (by simpa using hxy)
    rw [hxy, cond_true] at h1
    rw [e1]
    cases hyz : (c y.1 z.1 == 0) with
    | true => rw [hyz, cond_true] at h2; rw [cond_true]; exact k.trans _ _ _ hx.2 hy.2 hz.2 h1 h2
    | false => rw [hyz, cond_false] at h2; rw [cond_false]; exact h2
   | false =>
    rw [hxy, cond_false] at h1
    cases hyz : (c y.1 z.1 == 0) with
    | true =>
     have e1 := h.sep _ _ hy.1 hz.1 (by simpa using hyz)
     rw [← e1, hxy, cond_false]; exact h1
    | false =>
     rw [hyz, cond_false] at h2
     have h3 := h.trans _ _ _ hx.1 hy.1 hz.1 h1 h2
     have : (c x.1 z.1 == 0) = false := by rw [beq_eq_false_iff_ne]; omega
     rw [this, cond_false]; exact h3
 · cases hc : (c x.1 y.1 == 0) with
   | true =>
    rw [hc, cond_true] at e
    have e1 := h.sep _ _ hx.1 hy.1 (by simpa using hc)
    have e2 := k.sep _ _ hx.2 hy.2 e
    exact Prod.ext e1 e2
   | false => rw [hc, cond_false] at e; rw [e] at hc; cases hc
theorem uO {a b : Int} : vu a b < 0 ↔ a < b := by
 unfold vu
 by_cases h1 : a < b
 · simp [h1]
 · by_cases h2 : b < a
   · simp [h1, h2]
   · simp [h1, h2]
theorem tj (a b : Int) : vu b a = - vu a b := by
 unfold vu
 by_cases h1 : a < b
 · have h2 : ¬ b < a := by omega
   simp [h1, h2]
 · by_cases h2 : b < a
   · simp [h1, h2]
   · simp [h1, h2]
theorem wv : Cmp (fun _ => True) vu :=
 ⟨fun x y _ _ => tj x y, fun x y z _ _ _ h1 h2 => by rw [uO] at *; omega, fun x y _ _ e => by have := ti x y; rw [e] at this; simpa using this.symm⟩
theorem SF {a b : Str} : cd a b < 0 ↔ Op.bytesLess a b = true := by
 unfold cd
 cases Op.bytesLess a b with
 | true => simp
 | false => cases (a == b) <;> simp
theorem ov : Cmp (fun _ => True) cd := by
 refine ⟨fun x y _ _ => ?_, fun x y z _ _ _ h1 h2 => ?_, fun x y _ _ e => ?_⟩
 · unfold cd
   cases h1 : Op.bytesLess x y with
   | true =>
    have h2 : Op.bytesLess y x = false := by
     cases h : Op.bytesLess y x with
     | false => rfl
     | true => have := wu h1 h; rw [vc] at this; cases this
    have h3 : (y == x) = false := by
     rw [beq_eq_false_iff_ne]; intro e; subst e; rw [vc] at h1; cases h1
    rw [h2, h3]; rfl
   | false =>
    cases h2 : Op.bytesLess y x with
    | true =>
     have h3 : (x == y) = false := by
      rw [beq_eq_false_iff_ne]; intro e; subst e; rw [vc] at h2; cases h2
     rw [h3]; rfl
    | false =>
     have := lj h1 h2
     subst this
     simp
 · rw [SF] at *; exact wu h1 h2
 · unfold cd at e
   cases h1 : Op.bytesLess x y with
   | true => rw [h1] at e; cases e
   | false =>
    rw [h1] at e
    cases h2 : (x == y) with
    | true => simpa using h2
    | false => rw [h2] at e; cases e
/-- a part's place: a number ahead of all words -/
theorem th : Cmp (fun _ => True) tE := by
 have inj : ∀ {x y : Str}, 0 ≤ zQ x → zQ x = zQ y → x = y := fun {x y} h e => by
  have h1 := (oK h).2.1
  have h2 := (oK (s := y) (by rw [← e]; exact h)).2.1
  rw [← h1, ← h2, e]
 refine ⟨fun x y _ _ => ?_, fun x y z _ _ _ h1 h2 => ?_, fun x y _ _ e => ?_⟩
 · unfold tE
   cases decide (zQ x ≥ 0) <;> cases decide (zQ y ≥ 0) <;> simp only [Bool.and_true, Bool.and_false, Bool.true_and, Bool.false_and, cond_true, cond_false]
   all_goals first | exact ov.anti x y trivial trivial | exact tj _ _ | rfl
 · unfold tE at *
   cases hx : decide (zQ x ≥ 0) <;> cases hy : decide (zQ y ≥ 0) <;> cases hz : decide (zQ z ≥ 0) <;> simp only [hx, hy, hz, Bool.and_true, Bool.and_false, Bool.true_and, Bool.false_and, cond_true, cond_false] at *
   all_goals first | exact ov.trans x y z trivial trivial trivial h1 h2 | exact wv.trans _ _ _ trivial trivial trivial h1 h2 | omega
 · unfold tE at e
   cases hx : decide (zQ x ≥ 0) <;> cases hy : decide (zQ y ≥ 0) <;> simp only [hx, hy, Bool.and_true, Bool.and_false, Bool.true_and, Bool.false_and, cond_true, cond_false] at e
   all_goals try omega
   · exact ov.sep x y trivial trivial e
   · exact inj (of_decide_eq_true hx) (wv.sep _ _ trivial trivial e)
theorem s7 (a b : Str) (l m : List Str) : uc (a :: l) (b :: m) = cond (tE a b == 0) (uc l m) (tE a b) := by
 unfold uc
 rw [rN]
 cases (tE a b == 0) with
 | true =>
  simp only [cond_true, List.length_cons]
  cases rN l m with
  | some x => rfl
  | none =>
   simp only [Option.getD_none]
   unfold vu
   rw [show decide (((l.length + 1 : Nat) : Int) < ((m.length + 1 : Nat) : Int)) = decide ((l.length : Int) < (m.length : Int)) by rw [Bool.eq_iff_iff]; simp,
    show decide (((l.length + 1 : Nat) : Int) > ((m.length + 1 : Nat) : Int)) = decide ((l.length : Int) > (m.length : Int)) by rw [Bool.eq_iff_iff]; simp]
 | false => rfl
theorem rE (m : List Str) : uc [] m = vu 0 (m.length : Int) := by unfold uc rN; rfl
theorem vo (l : List Str) : uc l [] = vu (l.length : Int) 0 := by unfold uc rN; cases l <;> rfl
theorem mO : ∀ l m : List Str, uc m l = - uc l m
 | [], m => by rw [rE, vo]; exact tj _ _
 | a :: l, [] => by rw [rE, vo]; exact tj _ _
 | a :: l, b :: m => by
  have h := th.anti a b trivial trivial
  rw [s7, s7]
  cases hc : (tE a b == 0) with
  | true =>
   have h0 : tE a b = 0 := by simpa using hc
   rw [h, h0, show ((-0 : Int) == 0) = true from rfl, cond_true, cond_true]
   exact mO l m
  | false =>
   have h0 : tE a b ≠ 0 := by simpa using hc
   have h1 : (tE b a == 0) = false := by rw [beq_eq_false_iff_ne, h]; omega
   rw [h1, cond_false, cond_false, h]
theorem jA : ∀ l m : List Str, uc l m = 0 → l = m
 | [], m, e => by
  rw [rE] at e
  have := wv.sep _ _ trivial trivial e
  cases m with
  | nil => rfl
  | cons b m => simp at this; omega
 | a :: l, [], e => by
  rw [vo] at e
  have := wv.sep _ _ trivial trivial e
  simp at this; omega
 | a :: l, b :: m, e => by
  rw [s7] at e
  cases hc : (tE a b == 0) with
  | true =>
   rw [hc, cond_true] at e
   rw [th.sep a b trivial trivial (by simpa using hc), jA l m e]
  | false => rw [hc, cond_false] at e; rw [e] at hc; cases hc
theorem nn : ∀ l m k : List Str, uc l m < 0 → uc m k < 0 → uc l k < 0
 | [], [], k, h1, h2 => h2
 | [], b :: m, [], h1, h2 => by rw [vo, uO] at h2; simp at h2; omega
 | [], b :: m, c :: k, h1, h2 => by rw [rE, uO]; simp
 | a :: l, [], k, h1, h2 => by rw [vo, uO] at h1; simp at h1; omega
 | a :: l, b :: m, [], h1, h2 => by rw [vo, uO] at h2; simp at h2; omega
 | a :: l, b :: m, c :: k, h1, h2 => by
  rw [s7] at *
  cases hxy : (tE a b == 0) with
  | true =>
   have e1 := th.sep a b trivial trivial (by simpa using hxy)
   subst e1
   rw [hxy, cond_true] at h1
   cases hyz : (tE a c == 0) with
   | true => rw [hyz, cond_true] at h2; rw [cond_true]; exact nn l m k h1 h2
   | false => rw [hyz, cond_false] at h2; rw [cond_false]; exact h2
  | false =>
   rw [hxy, cond_false] at h1
   cases hyz : (tE b c == 0) with
   | true =>
    have e1 := th.sep b c trivial trivial (by simpa using hyz)
    subst e1
    rw [hxy, cond_false]; exact h1
   | false =>
    rw [hyz, cond_false] at h2
    have h3 := th.trans a b c trivial trivial trivial h1 h2
    have : (tE a c == 0) = false := by rw [beq_eq_false_iff_ne]; omega
    rw [this, cond_false]; exact h3
/-- what stands behind the numbers: nothing is above all -/
def Ya (a b : List Str) : Int := cond (a == [] || b == []) (vu (b.length : Int) (a.length : Int)) (uc a b)
theorem cM : Cmp (fun _ => True) Ya := by
 refine ⟨fun x y _ _ => ?_, fun x y z _ _ _ h1 h2 => ?_, fun x y _ _ e => ?_⟩
 · unfold Ya
   rw [Bool.or_comm]
   cases (x == [] || y == []) with
   | true => exact tj _ _
   | false => exact mO x y
 · unfold Ya at *
   cases x with
   | nil =>
    simp only [beq_self_eq_true, Bool.true_or, cond_true, uO, List.length_nil] at h1
    omega
   | cons a x =>
    cases y with
    | nil =>
     simp only [beq_self_eq_true, Bool.true_or, cond_true, uO, List.length_nil] at h2
     omega
    | cons b y =>
     cases z with
     | nil =>
      simp only [beq_self_eq_true, Bool.or_true, cond_true, uO, List.length_nil, List.length_cons]
      omega
     | cons c z =>
      rw [show ((a :: x == []) || (b :: y == [])) = false from rfl, cond_false] at h1
      rw [show ((b :: y == []) || (c :: z == [])) = false from rfl, cond_false] at h2
      rw [show ((a :: x == []) || (c :: z == [])) = false from rfl, cond_false]
      exact nn _ _ _ h1 h2
 · unfold Ya at e
   cases x with
   | nil =>
    simp only [beq_self_eq_true, Bool.true_or, cond_true, List.length_nil] at e
    have := wv.sep _ _ trivial trivial e
    cases y with
    | nil => rfl
    | cons b y => simp at this; omega
   | cons a x =>
    cases y with
    | nil =>
     simp only [beq_self_eq_true, Bool.or_true, cond_true, List.length_nil] at e
     have := wv.sep _ _ trivial trivial e
     simp at this; omega
    | cons b y =>
     rw [show ((a :: x == []) || (b :: y == [])) = false from rfl, cond_false] at e
     exact jA _ _ e
theorem YR : Cmp (fun _ => True) cb := by
 have h := (wv.lex (wv.lex (wv.lex cM))).RH (fun v : Ver => (v.maj, v.min, v.pat, v.pre)) (fun _ => True) (fun _ _ => ⟨trivial, trivial, trivial, trivial⟩) (fun x y _ _ e => by
  obtain ⟨a, b, c, d⟩ := x
  obtain ⟨a', b', c', d'⟩ := y
  simp only [Prod.mk.injEq] at e
  obtain ⟨rfl, rfl, rfl, rfl⟩ := e
  rfl)
 exact h
/-- texts of versions compared -/
def RI (s t : Str) : Int := cb (zX s).1 (zX t).1
theorem mN : Cmp (fun s => isV s = true) RI :=
 YR.RH (fun s => (zX s).1) _ (fun _ _ => trivial) fun x y hx hy e => by
  have h1 := (wm hx).2.1
  have h2 := (wm hy).2.1
  rw [← h1, ← h2, e]
def Rn (l : List Str) : Prop := l.Pairwise fun x y => RI x y < 0
def AllV (l : List Str) : Prop := ∀ s ∈ l, isV s = true
theorem Rn.uniq : ∀ {a b : List Str}, AllV a → AllV b → Rn a → Rn b → (∀ s, s ∈ a ↔ s ∈ b) → a = b
 | [], [], _, _, _, _, _ => rfl
 | [], y :: b, _, _, _, _, h => by have := (h y).2 (by simp); simp at this
 | x :: a, [], _, _, _, _, h => by have := (h x).1 (by simp); simp at this
 | x :: a, y :: b, va, vb, h1, h2, h => by
  obtain ⟨p1, p2⟩ := List.pairwise_cons.1 h1
  obtain ⟨q1, q2⟩ := List.pairwise_cons.1 h2
  have hxy : x = y := by
   rcases List.mem_cons.1 ((h x).1 (by simp)) with e | m1
   · exact e
   · rcases List.mem_cons.1 ((h y).2 (by simp)) with e | m2
     · exact e.symm
     · have a1 := p1 y m2
       have a2 := q1 x m1
       have := mN.anti x y (va x (by simp)) (vb y (by simp))
       omega
  subst hxy
  have hx := va x (by simp)
  have hr := mN.refl hx
  rw [Rn.uniq (fun s hs => va s (by simp [hs])) (fun s hs => vb s (by simp [hs])) p2 q2 fun s => ?_]
  constructor
  · intro hs
    rcases List.mem_cons.1 ((h s).1 (by simp [hs])) with rfl | m
    · have := p1 s hs; omega
    · exact m
  · intro hs
    rcases List.mem_cons.1 ((h s).2 (by simp [hs])) with rfl | m
    · have := q1 s hs; omega
    · exact m
end Go.Proofs.YtonbkdklidfmfaaGreatDoor
/- What the laws' own functions do over Change: sizes, copies, comparisons. Conditions: those of each lemma. -/
namespace Go.Proofs.YtonbkdklidfmfaaGreatDoor
open E
set_option linter.unusedSimpArgs false
set_option linter.unusedVariables false
set_option maxRecDepth 100000
structure yh where
 kind : Int
 name : List UInt8
 old : List UInt8
 new : List UInt8
def yh.enc (x : yh) : List T := [.int .i64 x.kind, .str x.name, .str x.old, .str x.new]
def yh.zi (l : List yh) : List (List T) := l.map yh.enc
def yh.zV (x : yh) : Nat := x.name.length + x.old.length + x.new.length
def yh.zK : List yh → Nat
 | [] => 0
 | c :: cs => yh.zV c + yh.zK cs
def yh.ok (x : yh) : Prop := x.name.length ≤ 9223372036854775807 ∧ x.old.length ≤ 9223372036854775807 ∧ x.new.length ≤ 9223372036854775807
theorem yh.vd (x : yh) : x.enc.length = 4 := rfl
theorem yh.wk (x : yh) : x.enc.take 4 = x.enc := rfl
theorem yh.zj (cs : List yh) : (yh.zi cs).length = cs.length := by simp [yh.zi]
theorem yh.xp (cs : List yh) (i : Nat) (h : i < cs.length) : (yh.zi cs)[i]? = some cs[i].enc := by simp [yh.zi, h]
theorem yh.xI (cs : List yh) (i : Nat) (h : i < cs.length) : yh.zK (cs.drop i) = cs[i].zV + yh.zK (cs.drop (i + 1)) := by
 rw [List.drop_eq_getElem_cons h]; rfl
theorem yh.yj : ∀ {cs : List yh} {c : yh}, c ∈ cs → c.zV ≤ yh.zK cs
 | c' :: cs, c, h => by
  simp only [yh.zK]
  rcases List.mem_cons.1 h with rfl | h
  · omega
  · have := yh.yj h; omega
end Go.Proofs.YtonbkdklidfmfaaGreatDoor
/- Names in order, changes between graphs, plain: both ways come to the same. Conditions: none. -/
namespace Go.Proofs.YtonbkdklidfmfaaGreatDoor
open E
set_option linter.unusedVariables false
set_option linter.unusedSimpArgs false
set_option maxRecDepth 100000
def Ro (l : List Str) : Prop := l.Pairwise fun x y => Op.bytesLess x y = true
theorem Qd {x y : Str} (h : Op.bytesLess x y = true) : Op.bytesLess y x = false := by
 cases h2 : Op.bytesLess y x with
 | false => rfl
 | true => have := wu h h2; rw [vc] at this; cases this
theorem Ro.uniq : ∀ {a b : List Str}, Ro a → Ro b → (∀ s, s ∈ a ↔ s ∈ b) → a = b
 | [], [], _, _, _ => rfl
 | [], y :: b, _, _, h => by have := (h y).2 (by simp); simp at this
 | x :: a, [], _, _, h => by have := (h x).1 (by simp); simp at this
 | x :: a, y :: b, h1, h2, h => by
  obtain ⟨p1, p2⟩ := List.pairwise_cons.1 h1
  obtain ⟨q1, q2⟩ := List.pairwise_cons.1 h2
  have hxy : x = y := by
   rcases List.mem_cons.1 ((h x).1 (by simp)) with e | m1
   · exact e
   · rcases List.mem_cons.1 ((h y).2 (by simp)) with e | m2
     · exact e.symm
     · have a1 := Qd (p1 y m2)
       have a2 := q1 x m1
       rw [a2] at a1; cases a1
  subst hxy
  rw [Ro.uniq p2 q2 fun s => ?_]
  constructor
  · intro hs
    rcases List.mem_cons.1 ((h s).1 (by simp [hs])) with rfl | m
    · have := p1 s hs; rw [vc] at this; cases this
    · exact m
  · intro hs
    rcases List.mem_cons.1 ((h s).2 (by simp [hs])) with rfl | m
    · have := q1 s hs; rw [vc] at this; cases this
    · exact m
theorem tD : ∀ (l : List Str) (s y : Str), y ∈ xS l s ↔ y ∈ l ∨ y = s
 | [], s, y => by simp [xS]
 | x :: r, s, y => by
  rw [xS]
  cases h1 : Op.bytesLess x s with
  | true => rw [cond_true, List.mem_cons, tD r s y, List.mem_cons, or_assoc]
  | false =>
   rw [cond_false]
   cases h2 : (x == s) with
   | true =>
    have : x = s := by simpa using h2
    subst this
    rw [cond_true, List.mem_cons]
    constructor
    · exact .inl
    · rintro (h | h)
      · exact h
      · exact .inl h
   | false => rw [cond_false, List.mem_cons]; exact Or.comm
def wG (l : List zy) : List (List Str) := l.map fun s => [s.alg, s.bytes]
end Go.Proofs.YtonbkdklidfmfaaGreatDoor
/- Lists compared, packs compared, texts kept and left out, names of two graphs, by both. Conditions: those of each lemma. -/
namespace Go.Proofs.YtonbkdklidfmfaaGreatDoor
open E
set_option linter.unusedSimpArgs false
set_option linter.unusedVariables false
set_option maxRecDepth 100000
theorem RA (a b : List Str) (hl : a.length ≤ 4194304) : ∀ (ra rb pa pb : List Str), a = pa ++ ra → b = pb ++ rb → pa.length = pb.length → ra.length = rb.length →
 EV Tryz.prog pol (.loop 64 58 0 [.t (.list 1 (strs a)), .t (.list 1 (strs b)), .t (.int .i64 (a.length : Int)), .t (.int .i64 (pa.length : Int))] []) = some (cond (ra == rb) (.loop (.exit 0) [.bad] []) (.loop .ret [.t (.bool false)] []))
 | [], [], pa, pb, ha, hb, hp, hr => by
  have c : decide ((pa.length : Int) < (a.length : Int)) = false := by simp [ha]
  rw [show (([] : List Str) == []) = true from rfl, cond_true]
  refine zk Tryz.func64 rfl rfl ?_
  simp (disch := ((try simp only [LL]); omega)) only [↓GO, ↓DRW, GA, GX, ren, zn, za, refs, z8, cst, zr, isC, bin, una, z7, zd, blt, asArg, zg, zc, zf, z6, E.mkS, unN, ze, zq, zb, GS, simprocAttr, GZ, c, zF]
 | [], _ :: _, pa, pb, ha, hb, hp, hr => by simp at hr
 | _ :: _, [], pa, pb, ha, hb, hp, hr => by simp at hr
 | x :: ra, y :: rb, pa, pb, ha, hb, hp, hr => by
  have c : decide ((pa.length : Int) < (a.length : Int)) = true := by simp [ha]; omega
  have hg1 : (strs a)[pa.length]? = some [.str x] := v7 (by rw [ha]; simp)
  have hg2 : (strs b)[pa.length]? = some [.str y] := v7 (by rw [hb, hp]; simp)
  have hlen : pa.length + ra.length + 1 ≤ a.length := by rw [ha]; simp; omega
  have IH := RA a b hl ra rb (pa ++ [x]) (pb ++ [y]) (by rw [ha]; simp) (by rw [hb]; simp) (by simp [hp]) (by simpa using hr)
  rw [show ((pa ++ [x]).length : Int) = (pa.length : Int) + 1 by simp] at IH
  rw [List.cons_beq_cons]
  clear ha hb
  cases q : (x == y) with
  | true =>
   rw [Bool.true_and]
   refine zk Tryz.func64 rfl rfl ?_
   simp (disch := ((try simp only [LL]); omega)) only [↓GO, ↓DRW, GA, GX, ren, zn, za, refs, z8, cst, zr, isC, bin, una, z7, zd, blt, asArg, zg, zc, zf, z6, E.mkS, unN, ze, zq, zb, GS, simprocAttr, GZ, c, hg1, hg2, q, bne, Bool.not_true, zo, zF, IH]
  | false =>
   rw [Bool.false_and, cond_false]
   refine zk Tryz.func64 rfl rfl ?_
   simp (disch := ((try simp only [LL]); omega)) only [↓GO, ↓DRW, GA, GX, ren, zn, za, refs, z8, cst, zr, isC, bin, una, z7, zd, blt, asArg, zg, zc, zf, z6, E.mkS, unN, ze, zq, zb, GS, simprocAttr, GZ, c, hg1, hg2, q, bne, Bool.not_false, zo, zF]
theorem Vz {a b : List Str} (h : a.length ≠ b.length) : (a == b) = false := by
 rw [beq_eq_false_iff_ne]; intro e; exact h (by rw [e])
theorem RS (a b : List Str) (hl : a.length ≤ 4194304) : zm (EV Tryz.prog pol) 64 [.t (.list 1 (strs a)), .t (.list 1 (strs b))] = some (.t (.bool (a == b))) := by
 by_cases hn : a.length = b.length
 · have L := RA a b hl a b [] [] rfl rfl rfl hn
   simp only [List.length_nil, Int.natCast_zero] at L
   have c : ((a.length : Int) != (b.length : Int)) = false := by rw [hn]; simp
   cases q : (a == b) <;> rw [q] at L <;> simp only [cond_true, cond_false] at L
   all_goals
    apply zu
    refine zw rfl Tryz.func64 rfl (by kernel_rfl) ?_
    unfold Tryz.f64
    simp (disch := ((try simp only [LL]); omega)) only [↓GO, ↓DRW, GA, GX, ren, zn, za, refs, z8, cst, zr, isC, bin, una, z7, zd, blt, asArg, zg, zc, zf, z6, E.mkS, unN, ze, zq, zb, GS, simprocAttr, GZ, L, zh, c, zF]
 · have c : ((a.length : Int) != (b.length : Int)) = true := by simp; omega
   rw [Vz hn]
   apply zu
   refine zw rfl Tryz.func64 rfl (by kernel_rfl) ?_
   unfold Tryz.f64
   simp (disch := ((try simp only [LL]); omega)) only [↓GO, ↓DRW, GA, GX, ren, zn, za, refs, z8, cst, zr, isC, bin, una, z7, zd, blt, asArg, zg, zc, zf, z6, E.mkS, unN, ze, zq, zb, GS, simprocAttr, GZ, zh, c, zF]
theorem Rz (a b : List Str) (hl : a.length ≤ 4194304) : ∀ (ra rb pa pb : List Str), a = pa ++ ra → b = pb ++ rb → pa.length = pb.length → ra.length = rb.length →
 EV Tryz.prog pol (.loop 61 58 0 [.t (.list 1 (strs a)), .t (.list 1 (strs b)), .t (.int .i64 (pa.length : Int))] []) = some (cond (ra == rb) (.loop (.exit 0) [.bad] []) (.loop .ret [.t (.bool false)] []))
 | [], [], pa, pb, ha, hb, hp, hr => by
  have c : decide ((pa.length : Int) < (a.length : Int)) = false := by simp [ha]
  rw [show (([] : List Str) == []) = true from rfl, cond_true]
  refine zk Tryz.func61 rfl rfl ?_
  simp (disch := ((try simp only [LL]); omega)) only [↓GO, ↓DRW, GA, GX, ren, zn, za, refs, z8, cst, zr, isC, bin, una, z7, zd, blt, asArg, zg, zc, zf, z6, E.mkS, unN, ze, zq, zb, GS, simprocAttr, GZ, c, zh, zF]
 | [], _ :: _, pa, pb, ha, hb, hp, hr => by simp at hr
 | _ :: _, [], pa, pb, ha, hb, hp, hr => by simp at hr
 | x :: ra, y :: rb, pa, pb, ha, hb, hp, hr => by
  have c : decide ((pa.length : Int) < (a.length : Int)) = true := by simp [ha]; omega
  have hg1 : (strs a)[pa.length]? = some [.str x] := v7 (by rw [ha]; simp)
  have hg2 : (strs b)[pa.length]? = some [.str y] := v7 (by rw [hb, hp]; simp)
  have hlen : pa.length + ra.length + 1 ≤ a.length := by rw [ha]; simp; omega
  have IH := Rz a b hl ra rb (pa ++ [x]) (pb ++ [y]) (by rw [ha]; simp) (by rw [hb]; simp) (by simp [hp]) (by simpa using hr)
  rw [show ((pa ++ [x]).length : Int) = (pa.length : Int) + 1 by simp] at IH
  rw [List.cons_beq_cons]
  clear ha hb
  cases q : (x == y) with
  | true =>
   rw [Bool.true_and]
   refine zk Tryz.func61 rfl rfl ?_
   simp (disch := ((try simp only [LL]); omega)) only [↓GO, ↓DRW, GA, GX, ren, zn, za, refs, z8, cst, zr, isC, bin, una, z7, zd, blt, asArg, zg, zc, zf, z6, E.mkS, unN, ze, zq, zb, GS, simprocAttr, GZ, c, hg1, hg2, zh, q, bne, Bool.not_true, zo, zF, IH]
  | false =>
   rw [Bool.false_and, cond_false]
   refine zk Tryz.func61 rfl rfl ?_
   simp (disch := ((try simp only [LL]); omega)) only [↓GO, ↓DRW, GA, GX, ren, zn, za, refs, z8, cst, zr, isC, bin, una, z7, zd, blt, asArg, zg, zc, zf, z6, E.mkS, unN, ze, zq, zb, GS, simprocAttr, GZ, c, hg1, hg2, zh, q, bne, Bool.not_false, zo, zF]
theorem c_eqR (a b : List Str) (hl : a.length ≤ 4194304) : zm (EV Tryz.prog pol) 61 [.t (.list 1 (strs a)), .t (.list 1 (strs b))] = some (.t (.bool (a == b))) := by
 by_cases hn : a.length = b.length
 · have L := Rz a b hl a b [] [] rfl rfl rfl hn
   simp only [List.length_nil, Int.natCast_zero] at L
   have c : ((a.length : Int) != (b.length : Int)) = false := by rw [hn]; simp
   cases q : (a == b) <;> rw [q] at L <;> simp only [cond_true, cond_false] at L
   all_goals
    apply zu
    refine zw rfl Tryz.func61 rfl (by kernel_rfl) ?_
    unfold Tryz.f61
    simp (disch := ((try simp only [LL]); omega)) only [↓GO, ↓DRW, GA, GX, ren, zn, za, refs, z8, cst, zr, isC, bin, una, z7, zd, blt, asArg, zg, zc, zf, z6, E.mkS, unN, ze, zq, zb, GS, simprocAttr, GZ, L, zh, c, zF]
 · have c : ((a.length : Int) != (b.length : Int)) = true := by simp; omega
   have hf : (a == b) = false := by rw [beq_eq_false_iff_ne]; intro e; exact hn (by rw [e])
   rw [hf]
   apply zu
   refine zw rfl Tryz.func61 rfl (by kernel_rfl) ?_
   unfold Tryz.f61
   simp (disch := ((try simp only [LL]); omega)) only [↓GO, ↓DRW, GA, GX, ren, zn, za, refs, z8, cst, zr, isC, bin, una, z7, zd, blt, asArg, zg, zc, zf, z6, E.mkS, unN, ze, zq, zb, GS, simprocAttr, GZ, zh, c, zF]
theorem nV (x : zy) (r : List zy) : wG (x :: r) = [x.alg, x.bytes] :: wG r := rfl
theorem r6 (l : List zy) : (wG l).length = l.length := by simp [wG]
theorem UJ {l : List zy} {i : Nat} {s : zy} (h : l[i]? = some s) : (zy.zi l)[i]? = some [.str s.alg, .str s.bytes] := by simp [zy.zi, zy.enc, h]
theorem T3 (a b : List zy) (hl : a.length ≤ 4194304) : ∀ (ra rb pa pb : List zy), a = pa ++ ra → b = pb ++ rb → pa.length = pb.length → ra.length = rb.length →
 EV Tryz.prog pol (.loop 104 58 0 [.t (.list 2 (zy.zi a)), .t (.list 2 (zy.zi b)), .t (.int .i64 (a.length : Int)), .t (.int .i64 (pa.length : Int))] []) = some (cond (wG ra == wG rb) (.loop (.exit 0) [.bad] []) (.loop .ret [.t (.bool false)] []))
 | [], [], pa, pb, ha, hb, hp, hr => by
  have c : decide ((pa.length : Int) < (a.length : Int)) = false := by simp [ha]
  rw [show (wG [] == wG []) = true from rfl, cond_true]
  refine zk Tryz.func104 rfl rfl ?_
  simp (disch := ((try simp only [LL]); omega)) only [↓GO, ↓DRW, GA, GX, ren, zn, za, refs, z8, cst, zr, isC, bin, una, z7, zd, blt, asArg, zg, zc, zf, z6, E.mkS, unN, ze, zq, zb, GS, simprocAttr, GZ, c, zF]
 | [], _ :: _, pa, pb, ha, hb, hp, hr => by simp at hr
 | _ :: _, [], pa, pb, ha, hb, hp, hr => by simp at hr
 | x :: ra, y :: rb, pa, pb, ha, hb, hp, hr => by
  have c : decide ((pa.length : Int) < (a.length : Int)) = true := by simp [ha]; omega
  have hg1 : (zy.zi a)[pa.length]? = some [.str x.alg, .str x.bytes] := UJ (by rw [ha]; simp)
  have hg2 : (zy.zi b)[pa.length]? = some [.str y.alg, .str y.bytes] := UJ (by rw [hb, hp]; simp)
  have hlen : pa.length + ra.length + 1 ≤ a.length := by rw [ha]; simp; omega
  have IH := T3 a b hl ra rb (pa ++ [x]) (pb ++ [y]) (by rw [ha]; simp) (by rw [hb]; simp) (by simp [hp]) (by simpa using hr)
  rw [show ((pa ++ [x]).length : Int) = (pa.length : Int) + 1 by simp] at IH
  rw [nV, nV, List.cons_beq_cons]
  clear ha hb
  cases q : ([x.alg, x.bytes] == [y.alg, y.bytes]) with
  | true =>
   rw [Bool.true_and]
   refine zk Tryz.func104 rfl rfl ?_
   simp (disch := ((try simp only [LL]); omega)) only [↓GO, ↓DRW, GA, GX, ren, zn, za, refs, z8, cst, zr, isC, bin, una, z7, zd, blt, asArg, zg, zc, zf, z6, E.mkS, unN, ze, zq, zb, GS, simprocAttr, GZ, c, hg1, hg2, q, bne, Bool.not_true, zo, zF, IH, List.length_cons, List.length_nil, Nat.zero_add, Nat.reduceAdd, and_self, if_true]
  | false =>
   rw [Bool.false_and, cond_false]
   refine zk Tryz.func104 rfl rfl ?_
   simp (disch := ((try simp only [LL]); omega)) only [↓GO, ↓DRW, GA, GX, ren, zn, za, refs, z8, cst, zr, isC, bin, una, z7, zd, blt, asArg, zg, zc, zf, z6, E.mkS, unN, ze, zq, zb, GS, simprocAttr, GZ, c, hg1, hg2, q, bne, Bool.not_false, zo, zF, List.length_cons, List.length_nil, Nat.zero_add, Nat.reduceAdd, and_self, if_true]
theorem QC (a b : List zy) (hl : a.length ≤ 4194304) : zm (EV Tryz.prog pol) 104 [.t (.list 2 (zy.zi a)), .t (.list 2 (zy.zi b))] = some (.t (.bool (wG a == wG b))) := by
 by_cases hn : a.length = b.length
 · have L := T3 a b hl a b [] [] rfl rfl rfl hn
   simp only [List.length_nil, Int.natCast_zero] at L
   have c : ((a.length : Int) != (b.length : Int)) = false := by rw [hn]; simp
   cases q : (wG a == wG b) <;> rw [q] at L <;> simp only [cond_true, cond_false] at L
   all_goals
    apply zu
    refine zw rfl Tryz.func104 rfl (by kernel_rfl) ?_
    unfold Tryz.f104
    simp (disch := ((try simp only [LL]); omega)) only [↓GO, ↓DRW, GA, GX, ren, zn, za, refs, z8, cst, zr, isC, bin, una, z7, zd, blt, asArg, zg, zc, zf, z6, E.mkS, unN, ze, zq, zb, GS, simprocAttr, GZ, L, zy.zj, c, zF]
 · have c : ((a.length : Int) != (b.length : Int)) = true := by simp; omega
   have hf : (wG a == wG b) = false := by rw [beq_eq_false_iff_ne]; intro e; exact hn (by rw [← r6 a, e, r6])
   rw [hf]
   apply zu
   refine zw rfl Tryz.func104 rfl (by kernel_rfl) ?_
   unfold Tryz.f104
   simp (disch := ((try simp only [LL]); omega)) only [↓GO, ↓DRW, GA, GX, ren, zn, za, refs, z8, cst, zr, isC, bin, una, z7, zd, blt, asArg, zg, zc, zf, z6, E.mkS, unN, ze, zq, zb, GS, simprocAttr, GZ, zy.zj, c, zF]
theorem kF {p : z1} {n : Nat} (h : p.zV ≤ n) : p.sums.length ≤ n ∧ p.zz.length ≤ n := by
 simp only [z1.zV] at h; omega
theorem qA {α : Type} (p : α → Bool) : ∀ (l : List α) (n i : Nat), xR p l n = some i → ∃ pre x post, l = pre ++ x :: post ∧ n + pre.length = i ∧ p x = true ∧ ∀ y ∈ pre, p y = false
 | [], n, i, h => by cases h
 | x :: r, n, i, h => by
  rw [xR] at h
  split at h
  · rename_i hx
    cases h
    exact ⟨[], x, r, rfl, rfl, hx, fun y hy => by simp at hy⟩
  · rename_i hx
    obtain ⟨pre, y, post, e1, e2, e3, e4⟩ := qA p r (n + 1) i h
    refine ⟨x :: pre, y, post, by rw [e1]; rfl, by simp; omega, e3, fun z hz => ?_⟩
    rcases List.mem_cons.1 hz with rfl | hz
    · simpa using hx
    · exact e4 z hz
end Go.Proofs.YtonbkdklidfmfaaGreatDoor
/- slices.DeleteFunc at packs that own their memory. Conditions: those of each lemma. -/
namespace Go.Proofs.YtonbkdklidfmfaaGreatDoor
open E
set_option linter.unusedSimpArgs false
set_option linter.unusedVariables false
set_option maxRecDepth 100000
/-- elements that name no rows, of a pack's size -/
def noR (J : List (List V)) : Prop := J.flatMap refs.refss = [] ∧ (∀ f : Nat → Option Nat, J.map (ren.rens f) = J) ∧ ∀ e ∈ J, e.length = 6
theorem xH {A B : List (List V)} (ha : noR A) (hb : noR B) : noR (A ++ B) := ⟨by rw [List.flatMap_append, ha.1, hb.1]; rfl, fun f => by rw [List.map_append, ha.2.1, hb.2.1], fun e he => (List.mem_append.1 he).elim (ha.2.2 e) (hb.2.2 e)⟩
theorem xb (l : List z1) : noR (ocE (z1.zi l)) := ⟨zR _, fun f => zZ f _, fun e he => by
 unfold ocE z1.zi at he
 simp only [List.map_map, List.mem_map] at he
 obtain ⟨x, _, rfl⟩ := he
 rfl⟩
theorem ez {e : List V} {J : List (List V)} (h1 : refs.refss e = []) (h2 : ∀ f, ren.rens f e = e) (h3 : e.length = 6) (hj : noR J) : noR (e :: J) := ⟨by rw [List.flatMap_cons, h1, hj.1]; rfl, fun f => by rw [List.map_cons, h2, hj.2.1], fun x hx => by
 rcases List.mem_cons.1 hx with rfl | hx
 · exact h3
 · exact hj.2.2 x hx⟩
theorem pH : noR [] := ⟨rfl, fun _ => rfl, fun e he => by simp at he⟩
theorem aU {e : List V} (h1 : refs.refss e = []) (h2 : ∀ f, ren.rens f e = e) (h3 : e.length = 6) : ∀ n, noR (List.replicate n e)
 | 0 => pH
 | n + 1 => by rw [List.replicate_succ]; exact ez h1 h2 h3 (aU h1 h2 h3 n)
theorem ey {e : List V} {J : List (List V)} (h : noR (e :: J)) : noR J := by
 obtain ⟨h1, h2, h3⟩ := h
 rw [List.flatMap_cons, List.append_eq_nil_iff] at h1
 exact ⟨h1.2, fun f => by have := h2 f; rw [List.map_cons] at this; exact (List.cons.inj this).2, fun x hx => h3 x (List.mem_cons_of_mem _ hx)⟩
theorem Y1 (n : Nat) : noR (List.replicate n zPk) := aU rfl (fun _ => rfl) rfl n
def fgP (x : z1) : List V := [.t (.str x.name), .t (.str x.version), .t (.str x.source), .bad, .t (.bool x.dev), .bad]
theorem oC (x : z1) : noR [fgP x] := ez rfl (fun _ => rfl) rfl pH
theorem dS (x : z1) (r : List z1) : ocE (z1.zi (x :: r)) = [V.t (.str x.name), .t (.str x.version), .t (.str x.source), .o (.list 2 (zy.zi x.sums)), .t (.bool x.dev), .o (.list 1 (strs x.zz))] :: ocE (z1.zi r) := rfl
theorem wJ (a b : List z1) : ocE (z1.zi (a ++ b)) = ocE (z1.zi a) ++ ocE (z1.zi b) := by simp [z1.zi, ocE]
theorem Zz {α : Type} (p : α → Bool) (l : List α) (h : xR p l 0 = none) : l.filter (fun x => !p x) = l := by
 have h2 := tA p l 0
 rw [h] at h2
 refine List.filter_eq_self.2 fun x hx => ?_
 cases hc : p x with
 | false => rfl
 | true =>
  have : l.any p = true := List.any_eq_true.2 ⟨x, hx, hc⟩
  rw [this] at h2; cases h2
set_option maxHeartbeats 4000000 in
theorem bP (g : Nat) (cell : T) (p : z1 → Bool) (l : List z1) (hl : l.length ≤ 1048576) (hp : ∀ x ∈ l, zm (EV Tryz.prog pol) g (.agg (x.enc.map .t) :: [.t (.fp [cell])]) = some (.t (.bool (p x)))) (n : Nat) (hn : n = l.length) (cap : Option Nat) :
 ∀ (R K : List z1) (J : List (List V)), (∀ x ∈ R, x ∈ l) → 1 ≤ J.length → noR J → K.length + J.length + R.length = l.length → ∃ J', noR J' ∧ (K ++ R.filter fun x => !p x).length + J'.length = l.length ∧
 EV Tryz.prog pol (.loop 50 122 2 [.sl 0 0 n cap, .fn g [.ptr 1 0 0], .t (.int .i64 (K.length : Int)), .t (.int .i64 ((K.length + J.length : Nat) : Int))] [.vs 6 (ocE (z1.zi K) ++ J ++ ocE (z1.zi R)), .vs 1 [[.t cell]]])
  = some (.loop (.exit 0) [.sl 0 0 n cap, .t (.int .i64 ((K ++ R.filter fun x => !p x).length : Int))] [.vs 6 (ocE (z1.zi (K ++ R.filter fun x => !p x)) ++ J'), .vs 1 [[.t cell]]])
 | [], K, J, hR, hJ, hJr, hlen => by
  have c : decide (((K.length + J.length : Nat) : Int) < (n : Int)) = false := by simp at hlen; apply decide_eq_false; omega
  refine ⟨J, hJr, by simp at hlen; simpa using hlen, ?_⟩
  have hE := xH (xb K) hJr
  simp only [List.filter_nil, List.append_nil, show ocE (z1.zi []) = [] from rfl]
  obtain ⟨h1, h2, _⟩ := hE
  generalize ocE (z1.zi K) ++ J = E0 at *
  refine zk Tryz.func50 rfl rfl ?_
  simp (disch := ((try simp only [LL]); omega)) only [↓GO, ↓DRW, GA, GX, ren, zn, za, refs, z8, cst, zr, isC, bin, una, z7, zd, blt, asArg, zg, zc, zf, z6, E.mkS, unN, ze, zq, zb, GS, simprocAttr, zD, zE, yK, yD, yI, yH, yL, gh1, yC, yr, yw, zO, mkO, yx, yt, y7, yJ, zI, yB, yA, y9, oc, oTs, oT, zM, zM.rowTs, yv, isL, Bool.not_false, Bool.true_and, Bool.and_true, Bool.and_self, List.flatMap_append, List.map_append, List.set_cons_zero, List.set_cons_succ, GZ, c, h1, h2, zF]
 | x :: R, K, J, hR, hJ, hJr, hlen => by
  simp only [List.length_cons] at hlen
  have c : decide (((K.length + J.length : Nat) : Int) < (n : Int)) = true := by apply decide_eq_true; omega
  have c0 : decide ((0 : Int) ≤ ((K.length + J.length : Nat) : Int)) = true := by apply decide_eq_true; omega
  have c00 : (0 : Int) ≤ ((K.length + J.length : Nat) : Int) := by omega
  have c1 : decide ((0 : Int) ≤ (K.length : Int)) = true := by apply decide_eq_true; omega
  have c11 : (0 : Int) ≤ (K.length : Int) := by omega
  have c2 : decide ((K.length : Int) < (n : Int)) = true := by apply decide_eq_true; omega
  have d1 := hp x (hR x (by simp))
  have hkl : K.length + J.length ≤ 1048576 := by omega
  have hPl : (ocE (z1.zi K) ++ J).length = K.length + J.length := by rw [List.length_append, zT, z1.zj]
  have hPr := xH (xb K) hJr
  have hBr := xb R
  have hf1 := xo x.sums
  have hf2 := yp x.zz
  have hs1 := zy.zj x.sums
  have hs2 := zh x.zz
  rw [dS, List.filter_cons]
  cases q : p x with
  | true =>
   rw [q] at d1
   obtain ⟨J', hJ1, hJ2, IH⟩ := bP g cell p l hl hp n hn cap R K (J ++ [fgP x]) (fun y hy => hR y (by simp [hy])) (by simp) (xH hJr (oC x)) (by simp; omega)
   rw [show ocE (z1.zi K) ++ (J ++ [fgP x]) ++ ocE (z1.zi R) = (ocE (z1.zi K) ++ J) ++ fgP x :: ocE (z1.zi R) by simp, show ((K.length + (J ++ [fgP x]).length : Nat) : Int) = ((K.length + J.length : Nat) : Int) + 1 by simp; omega] at IH
   refine ⟨J', hJ1, by simpa using hJ2, ?_⟩
   simp only [Bool.not_true, Bool.false_eq_true, if_false]
   obtain ⟨hP1, hP2, _⟩ := hPr
   obtain ⟨hB1, hB2, _⟩ := hBr
   have hg := fun y => xJ (ocE (z1.zi K) ++ J) (ocE (z1.zi R)) y (K.length + J.length) hPl
   have hs := fun y z => xw (ocE (z1.zi K) ++ J) (ocE (z1.zi R)) y z (K.length + J.length) hPl
   obtain ⟨name, version, source, sums, dev, zz⟩ := x
   simp only [fgP, z1.enc, List.map_cons, List.map_nil] at d1 IH hf1 hf2 hs1 hs2 ⊢
   clear hJ hlen hJr hJ1 hJ2 hp hR
   generalize ocE (z1.zi (K ++ R.filter fun x => !p x)) ++ J' = Z at *
   generalize (K ++ R.filter fun x => !p x).length = zl at *
   generalize ocE (z1.zi K) ++ J = P at *
   generalize ocE (z1.zi R) = B at *
   generalize zy.zi sums = es1 at *
   generalize strs zz = es2 at *
   have hk1 := List.take_of_length_le (Nat.le_of_eq hs1)
   have hk2 := List.take_of_length_le (Nat.le_of_eq hs2)
   generalize sums.length = n1 at *
   generalize zz.length = n2 at *
   generalize K.length = kl at *
   generalize hkj : kl + J.length = kj at *
   refine zk Tryz.func50 rfl rfl ?_
   simp (disch := ((try simp only [LL]); omega)) only [↓GO, ↓DRW, GA, GX, ren, zn, za, refs, z8, cst, zr, isC, bin, una, z7, zd, blt, asArg, zg, zc, zf, z6, E.mkS, unN, ze, zq, zb, GS, simprocAttr, zD, zE, yK, yD, yI, yH, yL, gh1, yC, yr, yw, zO, mkO, yx, yt, y7, yJ, zI, yB, yA, y9, oc, oTs, oT, zM, zM.rowTs, yv, isL, Bool.not_false, Bool.true_and, Bool.and_true, Bool.and_self, List.flatMap_append, List.map_append, List.set_cons_zero, List.set_cons_succ, GZ, c, c0, c00, if_true, Int.toNat_natCast, hg, hs, hf1, hf2, hs1, hs2, hk1, hk2, d1, hP1, hP2, hB1, hB2, zo, Bool.not_true, zF, IH]
  | false =>
   rw [q] at d1
   obtain ⟨j0, Jt, rfl⟩ : ∃ j0 Jt, J = j0 :: Jt := by cases J with | nil => simp at hJ | cons a t => exact ⟨a, t, rfl⟩
   have hJt := ey hJr
   obtain ⟨J', hJ1, hJ2, IH⟩ := bP g cell p l hl hp n hn cap R (K ++ [x]) (Jt ++ [fgP x]) (fun y hy => hR y (by simp [hy])) (by simp) (xH hJt (oC x)) (by simp at hlen ⊢; omega)
   rw [show ocE (z1.zi (K ++ [x])) ++ (Jt ++ [fgP x]) ++ ocE (z1.zi R) = (ocE (z1.zi K) ++ [V.t (.str x.name), .t (.str x.version), .t (.str x.source), .o (.list 2 (zy.zi x.sums)), .t (.bool x.dev), .o (.list 1 (strs x.zz))] :: Jt) ++ fgP x :: ocE (z1.zi R) by rw [wJ, show ocE (z1.zi [x]) = [[V.t (.str x.name), .t (.str x.version), .t (.str x.source), .o (.list 2 (zy.zi x.sums)), .t (.bool x.dev), .o (.list 1 (strs x.zz))]] from rfl]; simp,
    show ((K ++ [x]).length : Int) = (K.length : Int) + 1 by simp, show (((K ++ [x]).length + (Jt ++ [fgP x]).length : Nat) : Int) = ((K.length + (j0 :: Jt).length : Nat) : Int) + 1 by simp; omega] at IH
   refine ⟨J', hJ1, by simpa using hJ2, ?_⟩
   simp only [Bool.not_false, if_true]
   rw [show K ++ x :: R.filter (fun x => !p x) = (K ++ [x]) ++ R.filter fun x => !p x by simp]
   have hj1 : refs.refss j0 = [] := by have := hJr.1; rw [List.flatMap_cons, List.append_eq_nil_iff] at this; exact this.1
   have hj2 : ∀ f, ren.rens f j0 = j0 := fun f => by have := hJr.2.1 f; rw [List.map_cons] at this; exact (List.cons.inj this).1
   obtain ⟨hB1, hB2, _⟩ := hBr
   have hKl : (ocE (z1.zi K)).length = K.length := by rw [zT, z1.zj]
   have hA := xb K
   have hQl : ∀ z, (ocE (z1.zi K) ++ z :: Jt).length = K.length + (j0 :: Jt).length := fun z => by simp [zT, z1.zj]
   have hg3 := fun z y => xJ (ocE (z1.zi K) ++ z :: Jt) (ocE (z1.zi R)) y (K.length + (j0 :: Jt).length) (hQl z)
   have hs4 := fun z y y' => xw (ocE (z1.zi K) ++ z :: Jt) (ocE (z1.zi R)) y y' (K.length + (j0 :: Jt).length) (hQl z)
   have hs2' : ∀ y z, (ocE (z1.zi K) ++ j0 :: Jt ++ y :: ocE (z1.zi R)).set K.length z = (ocE (z1.zi K) ++ z :: Jt) ++ y :: ocE (z1.zi R) := fun y z => by
    rw [List.append_assoc, List.cons_append, xw _ _ _ _ _ hKl, List.append_assoc, List.cons_append]
   have hg2' : ∀ y z, ((ocE (z1.zi K) ++ z :: Jt) ++ y :: ocE (z1.zi R))[K.length]? = some z := fun y z => by rw [List.append_assoc, List.cons_append]; exact xJ _ _ _ _ hKl
   have hs3' : ∀ y z z', ((ocE (z1.zi K) ++ z :: Jt) ++ y :: ocE (z1.zi R)).set K.length z' = (ocE (z1.zi K) ++ z' :: Jt) ++ y :: ocE (z1.zi R) := fun y z z' => by
    rw [List.append_assoc, List.cons_append, xw _ _ _ _ _ hKl, List.append_assoc, List.cons_append]
   obtain ⟨Q, hQ⟩ : ∃ Q : List V → List (List V), ∀ z, Q z = ocE (z1.zi K) ++ z :: Jt := ⟨_, fun _ => rfl⟩
   have hQ1 : ∀ z, (Q z).flatMap refs.refss = refs.refss z := fun z => by rw [hQ, List.flatMap_append, List.flatMap_cons, hA.1, hJt.1]; simp
   have hQ2 : ∀ z f, (Q z).map (ren.rens f) = Q (ren.rens f z) := fun z f => by rw [hQ, hQ, List.map_append, List.map_cons, hA.2.1, hJt.2.1]
   have hj0l : j0.length = 6 := hJr.2.2 j0 (by simp)
   have hj6 : 6 ≤ j0.length := by omega
   have hd6 : j0.drop 6 = [] := List.drop_of_length_le (by omega)
   clear hj0l
   simp only [← hQ] at hg3 hs4 hs2' hg2' hs3' IH ⊢
   clear hQ hQl hJt hA hKl hPr hPl
   obtain ⟨name, version, source, sums, dev, zz⟩ := x
   simp only [fgP, z1.enc, List.map_cons, List.map_nil] at d1 IH hf1 hf2 hs1 hs2 ⊢
   clear hJ hlen hJr hJ1 hJ2 hp hR
   generalize ocE (z1.zi ((K ++ [z1.mk name version source sums dev zz]) ++ R.filter fun x => !p x)) ++ J' = Z at *
   generalize ((K ++ [z1.mk name version source sums dev zz]) ++ R.filter fun x => !p x).length = zl at *
   generalize ocE (z1.zi R) = B at *
   generalize zy.zi sums = es1 at *
   generalize strs zz = es2 at *
   have hk1 := List.take_of_length_le (Nat.le_of_eq hs1)
   have hk2 := List.take_of_length_le (Nat.le_of_eq hs2)
   generalize sums.length = n1 at *
   generalize zz.length = n2 at *
   generalize K.length = kl at *
   generalize hkj : kl + (j0 :: Jt).length = kj at *
   have hkk : ¬ (kl = kj) := by rw [← hkj]; simp
   refine zk Tryz.func50 rfl rfl ?_
   simp (maxSteps := 1000000) (disch := ((try simp only [LL]); omega)) only [↓GO, ↓DRW, GA, GX, ren, zn, za, refs, z8, cst, zr, isC, bin, una, z7, zd, blt, asArg, zg, zc, zf, z6, E.mkS, unN, ze, zq, zb, GS, simprocAttr, zD, zE, yK, yD, yI, yH, yL, gh1, yC, yr, yw, zO, mkO, yx, yt, y7, yJ, zI, yB, yA, y9, oc, oTs, oT, zM, zM.rowTs, yv, isL, Bool.not_false, Bool.true_and, Bool.and_true, Bool.and_self, List.flatMap_append, List.map_append, List.set_cons_zero, List.set_cons_succ, GZ, c, c0, c00, c1, c11, c2, if_true, Int.toNat_natCast, hg2', hs3', hg3, hs4, hQ1, hQ2, hj1, hj2, hj6, hd6, hf1, hf2, hs1, hs2, hk1, hk2, d1, hB1, hB2, zo, Bool.not_false, zF, IH]
theorem QF (g : Nat) (cell : T) (p : z1 → Bool) (l : List z1) (hl : l.length ≤ 1048576) (hp : ∀ x ∈ l, zm (EV Tryz.prog pol) g (.agg (x.enc.map .t) :: [.t (.fp [cell])]) = some (.t (.bool (p x)))) (n : Nat) (hn : n = l.length) (cap : Option Nat) :
 ∃ J', noR J' ∧ (l.filter fun x => !p x).length + J'.length = l.length ∧
 EV Tryz.prog pol (.callO false 50 [.sl 0 0 n cap, .fn g [.ptr 1 0 0]] [.vs 6 (ocE (z1.zi l)), .vs 1 [[.t cell]]])
  = some (.call (.sl 0 0 (l.filter fun x => !p x).length cap) [.vs 6 (ocE (z1.zi (l.filter fun x => !p x)) ++ J'), .vs 1 [[.t cell]]]) := by
 have d1 := vD g [.fp [cell]] p l (by omega) hp
 have ht : (ocE (z1.zi l)).take n = ocE (z1.zi l) := List.take_of_length_le (by rw [zT, z1.zj]; omega)
 have f2 := uf l
 cases hf : xR p l 0 with
 | none =>
  rw [hf] at d1
  have hw := Zz p l hf
  refine ⟨[], pH, by rw [hw]; simp, ?_⟩
  rw [hw, List.append_nil, ← hn]
  simp only [ixI] at d1
  refine zN Tryz.func50 rfl (by kernel_rfl) ?_
  unfold Tryz.f50
  simp (disch := ((try simp only [LL]); omega)) only [↓GO, ↓DRW, GA, GX, ren, zn, za, refs, z8, cst, zr, isC, bin, una, z7, zd, blt, asArg, zg, zc, zf, z6, E.mkS, unN, ze, zq, zb, GS, simprocAttr, zD, zE, yK, yD, yI, yH, yL, gh1, yC, yr, yw, zO, mkO, yx, yt, y7, yJ, zI, yB, yA, y9, oc, oTs, oT, zM, zM.rowTs, yv, isL, Bool.not_false, Bool.true_and, Bool.and_true, Bool.and_self, List.flatMap_append, List.map_append, List.set_cons_zero, List.set_cons_succ, GZ, d1, wD, ht, f2, wI, zZ, zR, List.drop_zero, beq_self_eq_true, zF]
 | some i =>
  rw [hf] at d1
  obtain ⟨pre, x, post, e1, e2, e3, e4⟩ := qA _ l 0 i hf
  simp only [Nat.zero_add] at e2
  have hw : (l.filter fun x => !p x) = pre ++ post.filter fun x => !p x := by
   rw [e1, List.filter_append, List.filter_cons, e3]
   simp only [Bool.not_true, Bool.false_eq_true, if_false]
   congr 1
   exact List.filter_eq_self.2 fun y hy => by rw [e4 y hy]; rfl
  have hlen : pre.length + 1 + post.length = l.length := by have h9 := congrArg List.length e1; simp at h9; omega
  have hmap : Option.map (fun x : Nat => x) cap = cap := by cases cap <;> rfl
  obtain ⟨J', hJr, hJ', L⟩ := bP g cell p l hl hp n hn cap post pre (ocE (z1.zi [x])) (fun y hy => by rw [e1]; simp [hy]) (by rw [zT, z1.zj]; exact Nat.le_refl _) (xb _) (by rw [zT, z1.zj]; simpa using hlen)
  rw [← wJ, ← wJ, show pre ++ [x] ++ post = l by rw [e1]; simp, show ((pre.length + (ocE (z1.zi [x])).length : Nat) : Int) = (pre.length : Int) + 1 by rw [zT, z1.zj]; rfl, e2] at L
  have c0 : ((i : Int) == -1) = false := by rw [beq_eq_false_iff_ne]; omega
  rw [← hw] at L hJ'
  have hwl : (l.filter fun x => !p x).length ≤ n := by omega
  generalize hZ : (l.filter fun x => !p x) = Z at *
  have hZl : (ocE (z1.zi Z)).length = Z.length := by rw [zT, z1.zj]
  have htk : (ocE (z1.zi Z) ++ J').take Z.length = ocE (z1.zi Z) := by rw [← hZl]; simp
  have hdk : (ocE (z1.zi Z) ++ J').drop (Z.length + (n - Z.length)) = [] := List.drop_of_length_le (by rw [List.length_append, hZl]; omega)
  have hEl : (ocE (z1.zi Z) ++ J').length = n := by rw [List.length_append, hZl, hn]; exact hJ'
  have hE := xH (xb Z) hJr
  obtain ⟨h1, h2, _⟩ := hE
  refine ⟨List.replicate (n - Z.length) zPk, Y1 _, by rw [List.length_replicate]; omega, ?_⟩
  obtain ⟨h3, h4, _⟩ := xH (xb Z) (Y1 (n - Z.length))
  have hil : i ≤ 1048576 := by omega
  have hnl : n ≤ 1048576 := by omega
  simp only [ixI] at d1
  clear hw hJ' e1 hf e4 e3 hlen hp hl
  have c1 : Z.length + (n - Z.length) ≤ n := by omega
  simp only [zPk] at h3 h4 ⊢
  generalize ocE (z1.zi Z) ++ J' = E1 at *
  generalize ocE (z1.zi Z) = E2 at *
  refine zN Tryz.func50 rfl (by kernel_rfl) ?_
  unfold Tryz.f50
  simp (disch := ((try simp only [LL]); omega)) only [↓GO, ↓DRW, GA, GX, ren, zn, za, refs, z8, cst, zr, isC, bin, una, z7, zd, blt, asArg, zg, zc, zf, z6, E.mkS, unN, ze, zq, zb, GS, simprocAttr, zD, zE, yK, yD, yI, yH, yL, gh1, yC, yr, yw, zO, mkO, yx, yt, y7, yJ, zI, yB, yA, y9, oc, oTs, oT, zM, zM.rowTs, yv, isL, Bool.not_false, Bool.true_and, Bool.and_true, Bool.and_self, List.flatMap_append, List.map_append, List.set_cons_zero, List.set_cons_succ, GZ, d1, wD, ht, f2, wI, zZ, zR, List.drop_zero, c0, L, hEl, htk, hdk, h1, h2, h3, h4, zo, List.append_nil, zF, Nat.zero_add, Nat.sub_zero, c1, and_self, if_true, List.append_assoc, hmap]
end Go.Proofs.YtonbkdklidfmfaaGreatDoor
/- What is reached is closed; graphs pruned, plain: both ways come to the same. Conditions: none. -/
namespace Go.Proofs.YtonbkdklidfmfaaGreatDoor
open E
set_option linter.unusedVariables false
set_option linter.unusedSimpArgs false
set_option maxRecDepth 100000
theorem wL (l : List Str) (s : Str) : yi l s = true ↔ s ∈ l := by simp [yi]
theorem oh (ps : List z1) (k : Str) : gA ps k = (xN ps k).isSome := by
 unfold xN
 have h := tA (fun p => keyOf p == k) ps 0
 unfold gA
 rw [← h]
 show (tJ ps k).isSome = _
 cases hk : tJ ps k with
 | none => rfl
 | some i =>
  obtain ⟨q, h1, _⟩ := om hk
  simp only [Option.isSome_some, h1]
/-- what is laid down stays, what waits and is there comes, all that these need comes -/
theorem ug (ps : List z1) : ∀ (n : Nat) (out w : List Str), w.length + muS ps out ≤ n →
 (∀ k ∈ out, k ∈ yq xS ps n out w) ∧ (∀ k ∈ w, (xN ps k).isSome = true → k ∈ yq xS ps n out w) ∧
 ((∀ k p m, k ∈ out → xN ps k = some p → m ∈ p.zz → (xN ps m).isSome = true → m ∈ out ∨ m ∈ w) →
  ∀ k p m, k ∈ yq xS ps n out w → xN ps k = some p → m ∈ p.zz → (xN ps m).isSome = true → m ∈ yq xS ps n out w)
 | 0, out, w, hn => by
  have hw : w = [] := List.eq_nil_of_length_eq_zero (by omega)
  subst hw
  rw [yq]
  exact ⟨fun k h => h, fun k h => by simp at h, fun hc k p m h1 h2 h3 h4 => (hc k p m h1 h2 h3 h4).elim id fun h => by simp at h⟩
 | n + 1, out, [], hn => by
  rw [yq]
  exact ⟨fun k h => h, fun k h => by simp at h, fun hc k p m h1 h2 h3 h4 => (hc k p m h1 h2 h3 h4).elim id fun h => by simp at h⟩
 | n + 1, out, k0 :: w, hn => by
  simp only [List.length_cons] at hn
  rw [yq]
  cases hf : xN ps k0 with
  | none =>
   obtain ⟨i1, i2, i3⟩ := ug ps n out w (by omega)
   refine ⟨i1, fun k hk hs => ?_, fun hc => i3 fun k p m h1 h2 h3 h4 => ?_⟩
   · rcases List.mem_cons.1 hk with rfl | hk
     · rw [hf] at hs; cases hs
     · exact i2 k hk hs
   · rcases hc k p m h1 h2 h3 h4 with h | h
     · exact .inl h
     · rcases List.mem_cons.1 h with rfl | h
       · rw [hf] at h4; cases h4
       · exact .inr h
  | some p0 =>
   simp only
   cases hc0 : yi out k0 with
   | true =>
    have hin := (wL out k0).1 hc0
    obtain ⟨i1, i2, i3⟩ := ug ps n out w (by omega)
    rw [cond_true]
    refine ⟨i1, fun k hk hs => ?_, fun hc => i3 fun k p m h1 h2 h3 h4 => ?_⟩
    · rcases List.mem_cons.1 hk with rfl | hk
      · exact i1 _ hin
      · exact i2 k hk hs
    · rcases hc k p m h1 h2 h3 h4 with h | h
      · exact .inl h
      · rcases List.mem_cons.1 h with rfl | h
        · exact .inl hin
        · exact .inr h
   | false =>
    obtain ⟨hp, hkp, _⟩ := vK hf
    have hmu := pt k0 out (xS out k0) (pD out k0) hc0 ps p0 hp hkp
    obtain ⟨i1, i2, i3⟩ := ug ps n (xS out k0) (w ++ p0.zz) (by rw [List.length_append]; omega)
    rw [cond_false]
    refine ⟨fun k hk => i1 k ((tD out k0 k).2 (.inl hk)), fun k hk hs => ?_, fun hc => i3 fun k p m h1 h2 h3 h4 => ?_⟩
    · rcases List.mem_cons.1 hk with rfl | hk
      · exact i1 _ ((tD out _ _).2 (.inr rfl))
      · exact i2 k (List.mem_append.2 (.inl hk)) hs
    · rcases (tD out k0 k).1 h1 with h1 | rfl
      · rcases hc k p m h1 h2 h3 h4 with h | h
        · exact .inl ((tD out k0 m).2 (.inl h))
        · rcases List.mem_cons.1 h with rfl | h
          · exact .inl ((tD out _ _).2 (.inr rfl))
          · exact .inr (List.mem_append.2 (.inl h))
      · rw [hf] at h2
        cases h2
        exact .inr (List.mem_append.2 (.inr h3))
theorem mh (ps : List z1) (w : List Str) : ∀ k ∈ w, (xN ps k).isSome = true → k ∈ yc ps w := (ug ps (w.length + muS ps []) [] w (Nat.le_refl _)).2.1
theorem q6 (ps : List z1) (w : List Str) : ∀ k p m, k ∈ yc ps w → xN ps k = some p → m ∈ p.zz → (xN ps m).isSome = true → m ∈ yc ps w :=
 (ug ps (w.length + muS ps []) [] w (Nat.le_refl _)).2.2 fun k p m h => by simp at h
theorem qF (a s : Str) : vB (some a) s = Op.bytesLess a s := rfl
theorem oN (ps : List z1) : ∀ (o : Option Str) (l : List z1), w9 ps o l = true → (l.Pairwise fun x y => Op.bytesLess (keyOf x) (keyOf y) = true) ∧ ∀ p ∈ l, vB o (keyOf p) = true
 | o, [], _ => ⟨List.Pairwise.nil, fun p hp => by simp at hp⟩
 | o, p :: r, h => by
  rw [w9] at h
  simp only [Bool.and_eq_true] at h
  obtain ⟨⟨_, h1, _⟩, h2⟩ := h
  obtain ⟨k1, k2⟩ := oN ps (some (keyOf p)) r h2
  refine ⟨List.pairwise_cons.2 ⟨fun q hq => by have := k2 q hq; rwa [qF] at this, k1⟩, fun q hq => ?_⟩
  rcases List.mem_cons.1 hq with rfl | hq
  · exact h1
  · have h3 := k2 q hq
    rw [qF] at h3
    cases o with
    | none => rfl
    | some a => rw [qF] at h1 ⊢; exact wu h1 h3
def TE (l : List z1) : Prop := l.Pairwise fun x y => Op.bytesLess (keyOf x) (keyOf y) = true
theorem TE.key : ∀ {l : List z1}, TE l → ∀ p ∈ l, ∀ q ∈ l, keyOf p = keyOf q → p = q
 | [], _, p, hp, q, hq, e => by simp at hp
 | x :: r, h, p, hp, q, hq, e => by
  obtain ⟨h1, h2⟩ := List.pairwise_cons.1 h
  rcases List.mem_cons.1 hp with rfl | hp <;> rcases List.mem_cons.1 hq with rfl | hq
  · rfl
  · have := h1 q hq; rw [e, vc] at this; cases this
  · have := h1 p (by assumption); rw [e, vc] at this; cases this
  · exact TE.key h2 p hp q hq e
theorem wc {g : zx} (h : y6 g = true) : TE g.packs := by
 unfold y6 at h
 simp only [Bool.and_eq_true] at h
 exact (oN g.packs none g.packs h.1).1
theorem tZ {ps : List z1} (h : TE ps) {p : z1} (hp : p ∈ ps) : xN ps (keyOf p) = some p := by
 have hs : (xN ps (keyOf p)).isSome = true := by
  rw [← oh]
  unfold gA
  rw [List.any_eq_true]
  exact ⟨p, hp, by simp⟩
 obtain ⟨q, hq⟩ := Option.isSome_iff_exists.1 hs
 obtain ⟨h1, h2, _⟩ := vK hq
 rw [hq, h.key q h1 p hp h2]
def rP (keys : List Str) (p : z1) : z1 := ⟨p.name, p.version, p.source, p.sums, p.dev, p.zz.filter (yi keys)⟩
def xi (keys : List Str) (ps : List z1) : List z1 := (ps.filter fun p => yi keys (keyOf p)).map (rP keys)
def uC (g : zx) (keys : List Str) : zx := ⟨g.top.filter (yi keys), xi keys g.packs⟩
def xg (keys : List Str) (ps : List z1) : List z1 := ps.filter fun p => yi keys (keyOf p)
def uw (g : zx) : zx := cond (y6 g) ⟨g.top, xg (yc g.packs g.top) g.packs⟩ g
theorem filter_all {α : Type} (f : α → Bool) : ∀ l : List α, (∀ x ∈ l, f x = true) → l.filter f = l := fun l h => List.filter_eq_self.2 h
theorem cr {g : zx} (h : y6 g = true) : uC g (yc g.packs g.top) = uw g := by
 have hasc := wc h
 have hpk := uJ h
 have htop : ∀ k ∈ g.top, gA g.packs k = true := by
  have h' := h
  unfold y6 at h'
  simp only [Bool.and_eq_true] at h'
  exact (tX g.packs none g.top h'.2.2).2.1
 unfold uw uC
 rw [h, cond_true]
 congr 1
 · refine filter_all _ _ fun k hk => ?_
   rw [wL]
   exact mh _ _ k hk (by rw [← oh]; exact htop k hk)
 · unfold xi xg
   conv => rhs; rw [← List.map_id (g.packs.filter _)]
   refine List.map_congr_left fun p hp => ?_
   obtain ⟨hp1, hp2⟩ := List.mem_filter.1 hp
   have e : p.zz.filter (yi (yc g.packs g.top)) = p.zz := filter_all _ _ fun k hk => by
    rw [wL] at hp2 ⊢
    refine q6 _ _ (keyOf p) p k hp2 (tZ hasc hp1) hk ?_
    rw [← oh]
    exact (tX g.packs none p.zz (hpk p hp1).2).2.1 k hk
   unfold rP
   rw [e]
   rfl
end Go.Proofs.YtonbkdklidfmfaaGreatDoor
/- What one reaches, by both. Conditions: those of each lemma. -/
namespace Go.Proofs.YtonbkdklidfmfaaGreatDoor
open E
set_option linter.unusedSimpArgs false
set_option linter.unusedVariables false
set_option maxRecDepth 100000
def snS (l : List Str) (s : Str) : List Str := l ++ [s]
theorem qm (add : List Str → Str → List Str) (ps : List z1) (n : Nat) (out : List Str) : yq add ps n out [] = out := by cases n <;> rfl
theorem VH {l : List Str} {s : Str} (h : yi l s = false) : (xS l s).length = l.length + 1 := by
 rw [(oA l s h).length_eq]; simp
theorem GB.zz {g : zx} (hB : GB g) {p : z1} (hp : p ∈ g.packs) : p.zz.length ≤ 1048576 := by
 obtain ⟨_, _, h3⟩ := hB.len
 have := h3 p hp
 simp only [z1.zV] at this; omega
theorem uZ (ps : List z1) : ∀ (n : Nat) (out w : List Str), (yq snS ps n out w).length ≤ out.length + uP ps out
 | 0, out, w => by rw [yq]; omega
 | n + 1, out, [] => by rw [qm]; omega
 | n + 1, out, k :: w => by
  rw [yq]
  cases hf : xN ps k with
  | none => exact uZ ps n out w
  | some p =>
   obtain ⟨hp, hkp, _⟩ := vK hf
   simp only
   cases hc : yi out k with
   | true => exact uZ ps n out w
   | false =>
    have h1 := tW k out (out ++ [k]) (ot out k) hc ps p hp hkp
    have h2 := uZ ps n (snS out k) (w ++ p.zz)
    rw [cond_false]
    unfold snS at h2 ⊢
    simp only [List.length_append, List.length_cons, List.length_nil] at h2
    omega
theorem Y4 (g : zx) (hB : GB g) : ∀ (n : Nat) (out w : List Str) (es : List (List T)) (m off len : Nat) (cap cap2 : Option Nat), w.length + muS g.packs out ≤ n → n ≤ 4194304 → m = out.length → m + uP g.packs out ≤ 1048576 → len = w.length → es.drop off = strs w → off + len = es.length → ∃ cap',
 EV Tryz.prog pol (.loop 23 60 0 [.ptr 0 0 0, .sl 1 0 m cap, .sl 2 off len cap2] [.vs 2 [g.enc.map .t], .ts 1 (strs out), .ts 1 es])
  = some (.loop (.exit 0) [.sl 0 0 (yq snS g.packs n out w).length cap'] [.ts 1 (strs (yq snS g.packs n out w))])
 | n, out, [], es, m, off, len, cap, cap2, hn, hN, hm, hk, hl, hd, ho => by
  have c : decide ((len : Int) > 0) = false := by rw [hl]; rfl
  refine ⟨cap, ?_⟩
  rw [qm]
  clear hB
  obtain ⟨top, packs⟩ := g
  simp only [zx.enc, List.map_cons, List.map_nil]
  rw [← hm]
  refine zk Tryz.func23 rfl rfl ?_
  simp (disch := ((try simp only [LL]); omega)) only [↓GO, ↓DRW, GA, GX, ren, zn, za, refs, z8, cst, zr, isC, bin, una, z7, zd, blt, asArg, zg, zc, zf, z6, E.mkS, unN, ze, zq, zb, GS, simprocAttr, GZ, c, zF]
 | 0, out, k :: w, es, m, off, len, cap, cap2, hn, hN, hm, hk, hl, hd, ho => by simp at hn
 | n + 1, out, k :: w, es, m, off, len, cap, cap2, hn, hN, hm, hk, hl, hd, ho => by
  have c : decide ((len : Int) > 0) = true := by rw [hl]; simp
  have hoff : es[off]? = some [.str k] := by
   have : (es.drop off)[0]? = some [.str k] := by rw [hd]; rfl
   simpa using this
  have hd1 : es.drop (off + 1) = strs w := by
   rw [← List.drop_drop, hd]; rfl
  have hl1 : len - 1 = w.length := by rw [hl]; rfl
  have hl2 : 1 ≤ len := by rw [hl]; simp
  have hl3 : (1 : Int) ≤ (len : Int) := by omega
  have hsl : (strs out).length = m := by rw [zh, hm]
  have htk : (strs out).take m = strs out := List.take_of_length_le (by omega)
  have hml : m ≤ 1048576 := by omega
  have hll : len ≤ 4194304 := by simp only [List.length_cons] at hl hn; omega
  have d1 := hU g k hB
  have d2 := RU out (by omega) k
  simp only [List.length_cons] at hn
  rw [yq]
  cases hf : xN g.packs k with
  | none =>
   rw [pA hf] at d1
   have c2 : decide ((-1 : Int) ≥ 0) = false := rfl
   simp only [ixI] at d1
   obtain ⟨cap', IH⟩ := Y4 g hB n out w es m (off + 1) (len - 1) cap (cap2.map (· - 1)) (by omega) (by omega) hm hk hl1 hd1 (by omega)
   refine ⟨cap', ?_⟩
   simp only
   clear hB hf
   obtain ⟨top, packs⟩ := g
   simp only [zx.enc, List.map_cons, List.map_nil] at d1 IH ⊢
   generalize yq snS packs n out w = Z at *
   refine zk Tryz.func23 rfl rfl ?_
   simp (disch := ((try simp only [LL]); omega)) only [↓GO, ↓DRW, GA, GX, ren, zn, za, refs, z8, cst, zr, isC, bin, una, z7, zd, blt, asArg, zg, zc, zf, z6, E.mkS, unN, ze, zq, zb, GS, simprocAttr, GZ, c, c2, hoff, d1, zF, IH]
  | some p =>
   obtain ⟨hp, hkp, i, hi, hpi⟩ := vK hf
   rw [hi] at d1
   have c2 : decide ((i : Int) ≥ 0) = true := by simp
   have hnl := hB.zz hp
   have hget : (z1.zi g.packs)[i]? = some p.enc := by unfold z1.zi; rw [List.getElem?_map, hpi]; rfl
   simp only
   cases hc : yi out k with
   | true =>
    rw [hc] at d2
    obtain ⟨cap', IH⟩ := Y4 g hB n out w es m (off + 1) (len - 1) cap (cap2.map (· - 1)) (by omega) (by omega) hm hk hl1 hd1 (by omega)
    refine ⟨cap', ?_⟩
    rw [cond_true]
    clear hB hf
    obtain ⟨top, packs⟩ := g
    simp only [zx.enc, List.map_cons, List.map_nil, ixI] at d1 IH ⊢
    generalize yq snS packs n out w = Z at *
    refine zk Tryz.func23 rfl rfl ?_
    simp (disch := ((try simp only [LL]); omega)) only [↓GO, ↓DRW, GA, GX, ren, zn, za, refs, z8, cst, zr, isC, bin, una, z7, zd, blt, asArg, zg, zc, zf, z6, E.mkS, unN, ze, zq, zb, GS, simprocAttr, GZ, c, c2, hoff, d1, d2, htk, zF, IH]
   | false =>
    rw [hc] at d2
    have h1 := pt k out (out ++ [k]) (ot out k) hc g.packs p hp hkp
    have h2 := tW k out (out ++ [k]) (ot out k) hc g.packs p hp hkp
    obtain ⟨cap', IH⟩ := Y4 g hB n (out ++ [k]) (w ++ p.zz) (strs w ++ strs p.zz) (m + 1) 0 (w.length + p.zz.length) none none (by rw [List.length_append]; omega) (by omega) (by simp [hm]) (by omega) (by simp) (by simp [strs]) (by rw [List.length_append, zh, zh]; omega)
    have ho1 : off + 1 + w.length = es.length := by omega
    refine ⟨cap', ?_⟩
    rw [cond_false, show snS out k = out ++ [k] from rfl]
    rw [show strs (out ++ [k]) = strs out ++ [[.str k]] by simp [strs]] at IH
    clear hB hf h1 h2 hp hi hpi
    obtain ⟨top, packs⟩ := g
    obtain ⟨name, version, source, sums, dev, zz⟩ := p
    simp only [zx.enc, z1.enc, List.map_cons, List.map_nil, ixI] at d1 hget IH hnl ⊢
    generalize yq snS packs n (out ++ [k]) (w ++ zz) = Z at *
    refine zk Tryz.func23 rfl rfl ?_
    simp (disch := ((try simp only [LL]); omega)) only [↓GO, ↓DRW, GA, GX, ren, zn, za, refs, z8, cst, zr, isC, bin, una, z7, zd, blt, asArg, zg, zc, zf, z6, E.mkS, unN, ze, zq, zb, GS, simprocAttr, GZ, c, c2, hoff, d1, d2, htk, hget, hsl, hd1, hl1, ho1, zh, zF, IH, yY]
theorem RL (g : zx) (hB : GB g) (w : List Str) (hw : w.length ≤ 1048576) (hg : y6 g = true) : zm (EV Tryz.prog pol) 23 [.agg (g.enc.map .t), .t (.list 1 (strs w))] = some (.t (.list 1 (strs (yc g.packs w)))) := by
 have d1 := uT g hB
 rw [hg] at d1
 have d2 := tC (strs w) (by rw [zh]; omega)
 rw [zh] at d2
 have h1 := lf g.packs
 have h2 := hB
 unfold GB zx.zV at h2
 have h3 : uP g.packs [] ≤ g.packs.length := List.countP_le_length
 have h4 := hB.len
 obtain ⟨cap, L⟩ := Y4 g hB (w.length + muS g.packs []) [] w (strs w) 0 0 w.length (some 0) none (Nat.le_refl _) (by omega) rfl (by omega) rfl rfl (by rw [zh]; omega)
 have e : wR (yq snS g.packs (w.length + muS g.packs []) [] w) = yc g.packs w := mg g.packs _ w
 have hlen : (yq snS g.packs (w.length + muS g.packs []) [] w).length ≤ 1073741824 := by
  have := uZ g.packs (w.length + muS g.packs []) [] w
  simp only [List.length_nil] at this
  omega
 have d3 := Qr _ hlen _ rfl cap
 rw [e] at d3
 have e2 : (yq snS g.packs (w.length + muS g.packs []) [] w).length = (yc g.packs w).length := by rw [← e, o6]
 rw [e2] at L d3
 have ht : (strs (yc g.packs w)).take (yc g.packs w).length = strs (yc g.packs w) := by rw [← zh (yc g.packs w)]; simp
 rw [show strs [] = [] from rfl] at L
 clear hB h1 h2 h3 h4 e e2 hlen
 obtain ⟨top, packs⟩ := g
 simp only [zx.enc, List.map_cons, List.map_nil] at d1 d3 ht L ⊢
 generalize yc packs w = Z at *
 generalize yq snS packs (w.length + muS packs []) [] w = Y at *
 apply zu
 refine zw rfl Tryz.func23 rfl (by kernel_rfl) ?_
 unfold Tryz.f23
 simp (disch := ((try simp only [LL]); omega)) only [↓GO, ↓DRW, GA, GX, ren, zn, za, refs, z8, cst, zr, isC, bin, una, z7, zd, blt, asArg, zg, zc, zf, z6, E.mkS, unN, ze, zq, zb, GS, simprocAttr, GZ, d1, d2, d3, L, ht, zF]
theorem Y3 (g : zx) (hB : GB g) (hg : y6 g = true) : ∀ (n : Nat) (out w : List Str) (es : List (List T)) (m off len : Nat) (cap cap2 : Option Nat), w.length + muS g.packs out ≤ n → n ≤ 4194304 → m = out.length → m + uP g.packs out ≤ 1048576 → len = w.length → es.drop off = strs w → off + len = es.length → ∃ cap',
 EV Tryz.prog pol (.loop 27 60 0 [.ptr 0 0 0, .sl 1 0 m cap, .sl 2 off len cap2] [.vs 2 [g.enc.map .t], .ts 1 (strs out), .ts 1 es])
  = some (.loop (.exit 0) [.sl 0 0 (yq xS g.packs n out w).length cap'] [.ts 1 (strs (yq xS g.packs n out w))])
 | n, out, [], es, m, off, len, cap, cap2, hn, hN, hm, hk, hl, hd, ho => by
  have c : decide ((len : Int) > 0) = false := by rw [hl]; rfl
  refine ⟨cap, ?_⟩
  rw [qm]
  clear hB hg
  obtain ⟨top, packs⟩ := g
  simp only [zx.enc, List.map_cons, List.map_nil]
  rw [← hm]
  refine zk Tryz.func27 rfl rfl ?_
  simp (disch := ((try simp only [LL]); omega)) only [↓GO, ↓DRW, GA, GX, ren, zn, za, refs, z8, cst, zr, isC, bin, una, z7, zd, blt, asArg, zg, zc, zf, z6, E.mkS, unN, ze, zq, zb, GS, simprocAttr, GZ, c, zF]
 | 0, out, k :: w, es, m, off, len, cap, cap2, hn, hN, hm, hk, hl, hd, ho => by simp at hn
 | n + 1, out, k :: w, es, m, off, len, cap, cap2, hn, hN, hm, hk, hl, hd, ho => by
  have c : decide ((len : Int) > 0) = true := by rw [hl]; simp
  have hoff : es[off]? = some [.str k] := by
   have : (es.drop off)[0]? = some [.str k] := by rw [hd]; rfl
   simpa using this
  have hd1 : es.drop (off + 1) = strs w := by
   rw [← List.drop_drop, hd]; rfl
  have hl1 : len - 1 = w.length := by rw [hl]; rfl
  have hl2 : 1 ≤ len := by rw [hl]; simp
  have hl3 : (1 : Int) ≤ (len : Int) := by omega
  have hsl : (strs out).length = m := by rw [zh, hm]
  have htk : (strs out).take m = strs out := List.take_of_length_le (by omega)
  have hml : m ≤ 1048576 := by omega
  have hll : len ≤ 4194304 := by simp only [List.length_cons] at hl hn; omega
  have d0 := oG g hB
  rw [hg] at d0
  have d1 := iZ g k hB
  have d2 := Yc out (by omega) k
  simp only [List.length_cons] at hn
  rw [yq]
  cases hf : xN g.packs k with
  | none =>
   rw [pA hf] at d1
   have c2 : decide ((-1 : Int) < 0) = true := rfl
   simp only [ixI] at d1
   obtain ⟨cap', IH⟩ := Y3 g hB hg n out w es m (off + 1) (len - 1) cap (cap2.map (· - 1)) (by omega) (by omega) hm hk hl1 hd1 (by omega)
   refine ⟨cap', ?_⟩
   simp only
   clear hB hf hg
   obtain ⟨top, packs⟩ := g
   simp only [zx.enc, List.map_cons, List.map_nil] at d0 d1 IH ⊢
   generalize yq xS packs n out w = Z at *
   refine zk Tryz.func27 rfl rfl ?_
   simp (disch := ((try simp only [LL]); omega)) only [↓GO, ↓DRW, GA, GX, ren, zn, za, refs, z8, cst, zr, isC, bin, una, z7, zd, blt, asArg, zg, zc, zf, z6, E.mkS, unN, ze, zq, zb, GS, simprocAttr, GZ, c, c2, hoff, d0, d1, zF, IH]
  | some p =>
   obtain ⟨hp, hkp, i, hi, hpi⟩ := vK hf
   rw [hi] at d1
   have c2 : decide ((i : Int) < 0) = false := by simp
   have hnl := hB.zz hp
   have hget : (z1.zi g.packs)[i]? = some p.enc := by unfold z1.zi; rw [List.getElem?_map, hpi]; rfl
   simp only
   cases hc : yi out k with
   | true =>
    rw [hc] at d2
    obtain ⟨cap', IH⟩ := Y3 g hB hg n out w es m (off + 1) (len - 1) cap (cap2.map (· - 1)) (by omega) (by omega) hm hk hl1 hd1 (by omega)
    refine ⟨cap', ?_⟩
    rw [cond_true]
    clear hB hf hg
    obtain ⟨top, packs⟩ := g
    simp only [zx.enc, List.map_cons, List.map_nil, ixI] at d0 d1 IH ⊢
    generalize yq xS packs n out w = Z at *
    refine zk Tryz.func27 rfl rfl ?_
    simp (disch := ((try simp only [LL]); omega)) only [↓GO, ↓DRW, GA, GX, ren, zn, za, refs, z8, cst, zr, isC, bin, una, z7, zd, blt, asArg, zg, zc, zf, z6, E.mkS, unN, ze, zq, zb, GS, simprocAttr, GZ, c, c2, hoff, d0, d1, d2, htk, zF, IH]
   | false =>
    rw [hc] at d2
    have h1 := pt k out (xS out k) (pD out k) hc g.packs p hp hkp
    have h2 := tW k out (xS out k) (pD out k) hc g.packs p hp hkp
    have d3 := QI out (by omega) k m hm cap (SB hc)
    obtain ⟨cap', IH⟩ := Y3 g hB hg n (xS out k) (w ++ p.zz) (strs w ++ strs p.zz) (m + 1) 0 (w.length + p.zz.length) none none (by rw [List.length_append]; omega) (by omega) (by rw [VH hc, hm]) (by omega) (by simp) (by simp [strs]) (by rw [List.length_append, zh, zh]; omega)
    have ho1 : off + 1 + w.length = es.length := by omega
    refine ⟨cap', ?_⟩
    rw [cond_false]
    clear hB hf hg h1 h2 hp hi hpi
    obtain ⟨top, packs⟩ := g
    obtain ⟨name, version, source, sums, dev, zz⟩ := p
    simp only [zx.enc, z1.enc, List.map_cons, List.map_nil, ixI] at d0 d1 hget IH hnl ⊢
    generalize yq xS packs n (xS out k) (w ++ zz) = Z at *
    generalize xS out k = out' at *
    refine zk Tryz.func27 rfl rfl ?_
    simp (disch := ((try simp only [LL]); omega)) only [↓GO, ↓DRW, GA, GX, ren, zn, za, refs, z8, cst, zr, isC, bin, una, z7, zd, blt, asArg, zg, zc, zf, z6, E.mkS, unN, ze, zq, zb, GS, simprocAttr, GZ, c, c2, hoff, d0, d1, d2, d3, hget, hsl, htk, hd1, hl1, ho1, zh, zF, IH, yY]
theorem c_reR (g : zx) (hB : GB g) (w : List Str) (hw : w.length ≤ 1048576) (hg : y6 g = true) : zm (EV Tryz.prog pol) 27 [.agg (g.enc.map .t), .t (.list 1 (strs w))] = some (.t (.list 1 (strs (yc g.packs w)))) := by
 have h1 := lf g.packs
 have h2 := hB
 unfold GB zx.zV at h2
 have h3 : uP g.packs [] ≤ g.packs.length := List.countP_le_length
 have h4 := hB.len
 obtain ⟨cap, L⟩ := Y3 g hB hg (w.length + muS g.packs []) [] w (strs w) 0 0 w.length (some 0) none (Nat.le_refl _) (by omega) rfl (by omega) rfl rfl (by rw [zh]; omega)
 have e : yq xS g.packs (w.length + muS g.packs []) [] w = yc g.packs w := rfl
 rw [e] at L
 have ht : (strs (yc g.packs w)).take (yc g.packs w).length = strs (yc g.packs w) := by rw [← zh (yc g.packs w)]; simp
 rw [show strs [] = [] from rfl] at L
 clear hB h1 h2 h3 h4 e hg
 obtain ⟨top, packs⟩ := g
 simp only [zx.enc, List.map_cons, List.map_nil] at ht L ⊢
 generalize yc packs w = Z at *
 apply zu
 refine zw rfl Tryz.func27 rfl (by kernel_rfl) ?_
 unfold Tryz.f27
 simp (disch := ((try simp only [LL]); omega)) only [↓GO, ↓DRW, GA, GX, ren, zn, za, refs, z8, cst, zr, isC, bin, una, z7, zd, blt, asArg, zg, zc, zf, z6, E.mkS, unN, ze, zq, zb, GS, simprocAttr, GZ, L, ht, zh, List.nil_append, Nat.zero_add, zF, yY]
end Go.Proofs.YtonbkdklidfmfaaGreatDoor
/- Graphs pruned, the law's own way. Conditions: those of each lemma. -/
namespace Go.Proofs.YtonbkdklidfmfaaGreatDoor
open E
set_option linter.unusedSimpArgs false
set_option linter.unusedVariables false
set_option maxRecDepth 100000
theorem Tq (keys : List Str) (hk : keys.length ≤ 1048576) (top : List Str) (hl : top.length ≤ 1048576) (cs : List z1) : ∀ (rest pre acc : List Str) (m : Nat), top = pre ++ rest → m = acc.length → m + rest.length ≤ 1073741824 →
 EV Tryz.prog pol (.loop 42 58 0 [.t (.list 1 (strs keys)), .ptr 0 0 0, .ptr 1 0 0, .ptr 2 0 0, .t (.int .i64 (pre.length : Int))] [.vs 2 [[.t (.list 1 (strs top)), .t (.list 6 (z1.zi cs))]], .vs 2 [zG], .vs 2 [[.sl 3 0 m none, .sl 4 0 0 none]], .ts 1 (strs acc), .ts 6 []])
  = some (.loop (.exit 0) [.t (.list 1 (strs keys)), .ptr 0 0 0, .ptr 1 0 0, .ptr 2 0 0] [.vs 2 [[.t (.list 1 (strs top)), .t (.list 6 (z1.zi cs))]], .vs 2 [zG], .vs 2 [[.sl 3 0 (acc ++ rest.filter (yi keys)).length none, .sl 4 0 0 none]], .ts 1 (strs (acc ++ rest.filter (yi keys))), .ts 6 []])
 | [], pre, acc, m, h, hm, hmM => by
  have c : decide ((pre.length : Int) < (top.length : Int)) = false := by simp [h]
  rw [List.filter_nil, List.append_nil, ← hm]
  simp only [zG]
  refine zk Tryz.func42 rfl rfl ?_
  simp (disch := ((try simp only [LL]); omega)) only [↓GO, ↓DRW, GA, GX, ren, zn, za, refs, z8, cst, zr, isC, bin, una, z7, zd, blt, asArg, zg, zc, zf, z6, E.mkS, unN, ze, zq, zb, GS, simprocAttr, GZ, c, zh, zF]
 | x :: rest, pre, acc, m, h, hm, hmM => by
  have c : decide ((pre.length : Int) < (top.length : Int)) = true := by simp [h]; omega
  have c0 : decide ((0 : Int) ≤ (pre.length : Int)) = true := by simp
  have hget : (strs top)[pre.length]? = some [.str x] := v7 (by rw [h]; simp)
  have hlen : pre.length + rest.length + 1 ≤ top.length := by rw [h]; simp; omega
  have hsl : (strs acc).length = m := by rw [zh, hm]
  simp only [List.length_cons] at hmM
  have d1 := Yc keys hk x
  rw [List.filter_cons]
  cases q : yi keys x with
  | true =>
   rw [q] at d1
   have IH := Tq keys hk top hl cs rest (pre ++ [x]) (acc ++ [x]) (m + 1) (by rw [h]; simp) (by simp [hm]) (by omega)
   rw [show ((pre ++ [x]).length : Int) = (pre.length : Int) + 1 by simp, show strs (acc ++ [x]) = strs acc ++ [[.str x]] by simp [strs], List.append_assoc, show [x] ++ rest.filter (yi keys) = x :: rest.filter (yi keys) from rfl] at IH
   simp only [if_true, zG] at IH ⊢
   clear h hk
   generalize acc ++ x :: rest.filter (yi keys) = Z at *
   refine zk Tryz.func42 rfl rfl ?_
   simp (disch := ((try simp only [LL]); omega)) only [↓GO, ↓DRW, GA, GX, ren, zn, za, refs, z8, cst, zr, isC, bin, una, z7, zd, blt, asArg, zg, zc, zf, z6, E.mkS, unN, ze, zq, zb, GS, simprocAttr, GZ, c, c0, zh, hget, d1, zo, hsl, zF, IH, yY]
   refine yQ (by kernel_rfl) ?_
   first | exact IH | simp (disch := ((try simp only [LL]); omega)) only [↓GO, ↓DRW, GA, GX, ren, zn, za, refs, z8, cst, zr, isC, bin, una, z7, zd, blt, asArg, zg, zc, zf, z6, E.mkS, unN, ze, zq, zb, GS, simprocAttr, GZ, IH, zo, zF]
  | false =>
   rw [q] at d1
   have IH := Tq keys hk top hl cs rest (pre ++ [x]) acc m (by rw [h]; simp) hm (by omega)
   rw [show ((pre ++ [x]).length : Int) = (pre.length : Int) + 1 by simp] at IH
   simp only [Bool.false_eq_true, if_false, zG] at IH ⊢
   clear h hk
   generalize acc ++ rest.filter (yi keys) = Z at *
   refine zk Tryz.func42 rfl rfl ?_
   simp (disch := ((try simp only [LL]); omega)) only [↓GO, ↓DRW, GA, GX, ren, zn, za, refs, z8, cst, zr, isC, bin, una, z7, zd, blt, asArg, zg, zc, zf, z6, E.mkS, unN, ze, zq, zb, GS, simprocAttr, GZ, c, c0, zh, hget, d1, zo, hsl, zF, IH, yY]
theorem Tt (keys : List Str) (hk : keys.length ≤ 1048576) (gt gp : T) (cs : List z1) (hgp : gp = .list 6 (z1.zi cs)) (p : z1) (hnl : p.zz.length ≤ 1048576) (i : Nat) (hi : cs[i]? = some p) (e1 e2 e3 e4 e5 : T) (mt mp : Nat) (A B : List (List T)) : ∀ (rest pre acc : List Str) (m : Nat) (cap : Option Nat), p.zz = pre ++ rest → m = acc.length → m + rest.length ≤ 1073741824 → ∃ cap',
 EV Tryz.prog pol (.loop 42 125242 0 [.t (.list 1 (strs keys)), .ptr 0 0 0, .ptr 1 0 0, .ptr 2 0 0, .t (.int .i64 (i : Int)), .ptr 3 0 0, .t (.int .i64 (pre.length : Int))] [.vs 2 [[.t gt, .t gp]], .vs 2 [zG], .vs 2 [[.sl 4 0 mt none, .sl 5 0 mp none]], .vs 6 [[.t e1, .t e2, .t e3, .t e4, .t e5, .sl 6 0 m cap]], .ts 1 A, .ts 6 B, .ts 1 (strs acc)])
  = some (.loop (.exit 4) [.t (.list 1 (strs keys)), .ptr 0 0 0, .ptr 1 0 0, .ptr 2 0 0, .t (.int .i64 (i : Int)), .ptr 3 0 0] [.vs 2 [[.t gt, .t gp]], .vs 2 [zG], .vs 2 [[.sl 4 0 mt none, .sl 5 0 mp none]], .vs 6 [[.t e1, .t e2, .t e3, .t e4, .t e5, .sl 6 0 (acc ++ rest.filter (yi keys)).length cap']], .ts 1 A, .ts 6 B, .ts 1 (strs (acc ++ rest.filter (yi keys)))])
 | [], pre, acc, m, cap, h, hm, hmM => by
  have c : decide ((pre.length : Int) < (p.zz.length : Int)) = false := by simp [h]
  have ci : decide ((0 : Int) ≤ (i : Int)) = true := by simp
  have hpi : (z1.zi cs)[i]? = some p.enc := by unfold z1.zi; rw [List.getElem?_map, hi]; rfl
  have hil : i < cs.length := by have := List.getElem?_eq_some_iff.1 hi; exact this.1
  refine ⟨cap, ?_⟩
  rw [List.filter_nil, List.append_nil, ← hm]
  clear h hi hk
  obtain ⟨name, version, source, sums, dev, zz⟩ := p
  simp only [z1.enc, zG] at hpi c ⊢
  subst hgp
  refine zk Tryz.func42 rfl rfl ?_
  simp (disch := ((try simp only [LL]); omega)) only [↓GO, ↓DRW, GA, GX, ren, zn, za, refs, z8, cst, zr, isC, bin, una, z7, zd, blt, asArg, zg, zc, zf, z6, E.mkS, unN, ze, zq, zb, GS, simprocAttr, GZ, c, ci, zh, hpi, zF]
 | x :: rest, pre, acc, m, cap, h, hm, hmM => by
  have c : decide ((pre.length : Int) < (p.zz.length : Int)) = true := by simp [h]; omega
  have c0 : decide ((0 : Int) ≤ (pre.length : Int)) = true := by simp
  have ci : decide ((0 : Int) ≤ (i : Int)) = true := by simp
  have hpi : (z1.zi cs)[i]? = some p.enc := by unfold z1.zi; rw [List.getElem?_map, hi]; rfl
  have hget : (strs p.zz)[pre.length]? = some [.str x] := v7 (by rw [h]; simp)
  have hlen : pre.length + rest.length + 1 ≤ p.zz.length := by rw [h]; simp; omega
  have hsl : (strs acc).length = m := by rw [zh, hm]
  simp only [List.length_cons] at hmM
  have d1 := Yc keys hk x
  rw [List.filter_cons]
  cases q : yi keys x with
  | true =>
   rw [q] at d1
   obtain ⟨cap', IH⟩ := Tt keys hk gt gp cs hgp p hnl i hi e1 e2 e3 e4 e5 mt mp A B rest (pre ++ [x]) (acc ++ [x]) (m + 1) none (by rw [h]; simp) (by simp [hm]) (by omega)
   rw [show ((pre ++ [x]).length : Int) = (pre.length : Int) + 1 by simp, show strs (acc ++ [x]) = strs acc ++ [[.str x]] by simp [strs], List.append_assoc, show [x] ++ rest.filter (yi keys) = x :: rest.filter (yi keys) from rfl] at IH
   simp only [if_true, zG] at IH ⊢
   refine ⟨cap', ?_⟩
   clear h hk hi
   generalize acc ++ x :: rest.filter (yi keys) = Z at *
   obtain ⟨name, version, source, sums, dev, zz⟩ := p
   simp only [z1.enc] at hpi c hget hlen hnl ⊢
   subst hgp
   refine zk Tryz.func42 rfl rfl ?_
   simp (disch := ((try simp only [LL]); omega)) only [↓GO, ↓DRW, GA, GX, ren, zn, za, refs, z8, cst, zr, isC, bin, una, z7, zd, blt, asArg, zg, zc, zf, z6, E.mkS, unN, ze, zq, zb, GS, simprocAttr, GZ, c, c0, ci, zh, hget, hpi, d1, zo, hsl, zF, IH, yY]
   refine yQ (by kernel_rfl) ?_
   first | exact IH | simp (disch := ((try simp only [LL]); omega)) only [↓GO, ↓DRW, GA, GX, ren, zn, za, refs, z8, cst, zr, isC, bin, una, z7, zd, blt, asArg, zg, zc, zf, z6, E.mkS, unN, ze, zq, zb, GS, simprocAttr, GZ, IH, zo, zF]
  | false =>
   rw [q] at d1
   obtain ⟨cap', IH⟩ := Tt keys hk gt gp cs hgp p hnl i hi e1 e2 e3 e4 e5 mt mp A B rest (pre ++ [x]) acc m cap (by rw [h]; simp) hm (by omega)
   rw [show ((pre ++ [x]).length : Int) = (pre.length : Int) + 1 by simp] at IH
   simp only [Bool.false_eq_true, if_false, zG] at IH ⊢
   refine ⟨cap', ?_⟩
   clear h hk hi
   generalize acc ++ rest.filter (yi keys) = Z at *
   obtain ⟨name, version, source, sums, dev, zz⟩ := p
   simp only [z1.enc] at hpi c hget hlen hnl ⊢
   subst hgp
   refine zk Tryz.func42 rfl rfl ?_
   simp (disch := ((try simp only [LL]); omega)) only [↓GO, ↓DRW, GA, GX, ren, zn, za, refs, z8, cst, zr, isC, bin, una, z7, zd, blt, asArg, zg, zc, zf, z6, E.mkS, unN, ze, zq, zb, GS, simprocAttr, GZ, c, c0, ci, zh, hget, hpi, d1, zo, hsl, zF, IH, yY]
theorem gJ (keys : List Str) (p : z1) (r : List z1) : xi keys (p :: r) = cond (yi keys (keyOf p)) (rP keys p :: xi keys r) (xi keys r) := by
 unfold xi
 rw [List.filter_cons]
 cases yi keys (keyOf p) <;> rfl
theorem Ts (keys : List Str) (hk : keys.length ≤ 1048576) (gt : T) (cs : List z1) (hl : cs.length ≤ 1048576) (hb : ∀ c ∈ cs, c.zV ≤ 1048576) (mt : Nat) (A : List (List T)) : ∀ (rest pre acc : List z1) (m : Nat), cs = pre ++ rest → m = acc.length → m + rest.length ≤ 1073741824 →
 EV Tryz.prog pol (.loop 42 122 0 [.t (.list 1 (strs keys)), .ptr 0 0 0, .ptr 1 0 0, .ptr 2 0 0, .t (.int .i64 (pre.length : Int))] [.vs 2 [[.t gt, .t (.list 6 (z1.zi cs))]], .vs 2 [zG], .vs 2 [[.sl 3 0 mt none, .sl 4 0 m none]], .ts 1 A, .ts 6 (z1.zi acc)])
  = some (.loop (.exit 2) [.ptr 0 0 0, .ptr 1 0 0] [.vs 2 [zG], .vs 2 [[.sl 2 0 mt none, .sl 3 0 (acc ++ xi keys rest).length none]], .ts 1 A, .ts 6 (z1.zi (acc ++ xi keys rest))])
 | [], pre, acc, m, h, hm, hmM => by
  have c : decide ((pre.length : Int) < (cs.length : Int)) = false := by simp [h]
  rw [show xi keys [] = [] from rfl, List.append_nil, ← hm]
  simp only [zG]
  refine zk Tryz.func42 rfl rfl ?_
  simp (disch := ((try simp only [LL]); omega)) only [↓GO, ↓DRW, GA, GX, ren, zn, za, refs, z8, cst, zr, isC, bin, una, z7, zd, blt, asArg, zg, zc, zf, z6, E.mkS, unN, ze, zq, zb, GS, simprocAttr, GZ, c, z1.zj, zF]
 | x :: rest, pre, acc, m, h, hm, hmM => by
  have c : decide ((pre.length : Int) < (cs.length : Int)) = true := by simp [h]; omega
  have c0 : decide ((0 : Int) ≤ (pre.length : Int)) = true := by simp
  have hix : cs[pre.length]? = some x := by rw [h]; simp
  have hget : (z1.zi cs)[pre.length]? = some x.enc := by rw [h]; simp [z1.zi]
  have hlen : pre.length + rest.length + 1 ≤ cs.length := by rw [h]; simp; omega
  have hsl : (z1.zi acc).length = m := by rw [z1.zj, hm]
  simp only [List.length_cons] at hmM
  have hxb := hb x (by rw [h]; simp)
  have d1 := qO x (by omega)
  have d2 := Yc keys hk (keyOf x)
  have d3 := gr x hxb
  rw [gJ]
  cases q : yi keys (keyOf x) with
  | true =>
   rw [q] at d2
   have IH := Ts keys hk gt cs hl hb mt A rest (pre ++ [x]) (acc ++ [rP keys x]) (m + 1) (by rw [h]; simp) (by simp [hm]) (by omega)
   have hnl : x.zz.length ≤ 1048576 := by unfold z1.zV at hxb; omega
   obtain ⟨cap', L⟩ := Tt keys hk gt (.list 6 (z1.zi cs)) cs rfl x hnl pre.length hix (.str x.name) (.str x.version) (.str x.source) (.list 2 (zy.zi x.sums)) (.bool x.dev) mt m A (z1.zi acc) x.zz [] [] 0 (some 0) rfl rfl (by omega)
   rw [show ((pre ++ [x]).length : Int) = (pre.length : Int) + 1 by simp, uj, List.append_assoc, show [rP keys x] ++ xi keys rest = rP keys x :: xi keys rest from rfl] at IH
   simp only [cond_true, zG, List.nil_append, List.length_nil, Int.natCast_zero, show strs [] = [] from rfl] at IH L ⊢
   have ht : (strs (x.zz.filter (yi keys))).take (x.zz.filter (yi keys)).length = strs (x.zz.filter (yi keys)) := by rw [← zh (x.zz.filter (yi keys))]; simp
   generalize acc ++ rP keys x :: xi keys rest = Z at *
   clear h hk hix hb hxb
   obtain ⟨name, version, source, sums, dev, zz⟩ := x
   simp only [z1.enc, rP, List.map_cons, List.map_nil] at d1 d2 d3 hget IH L ht ⊢
   generalize zz.filter (yi keys) = nf at *
   refine zk Tryz.func42 rfl rfl ?_
   simp (disch := ((try simp only [LL]); omega)) only [↓GO, ↓DRW, GA, GX, ren, zn, za, refs, z8, cst, zr, isC, bin, una, z7, zd, blt, asArg, zg, zc, zf, z6, E.mkS, unN, ze, zq, zb, GS, simprocAttr, GZ, c, c0, z1.zj, hget, d1, d2, d3, L, ht, zo, hsl, zF, IH, yY]
  | false =>
   rw [q] at d2
   have IH := Ts keys hk gt cs hl hb mt A rest (pre ++ [x]) acc m (by rw [h]; simp) hm (by omega)
   rw [show ((pre ++ [x]).length : Int) = (pre.length : Int) + 1 by simp] at IH
   simp only [cond_false, zG] at IH ⊢
   generalize acc ++ xi keys rest = Z at *
   clear h hk hix hb hxb
   obtain ⟨name, version, source, sums, dev, zz⟩ := x
   simp only [z1.enc, List.map_cons, List.map_nil] at d1 d2 d3 hget ⊢
   refine zk Tryz.func42 rfl rfl ?_
   simp (disch := ((try simp only [LL]); omega)) only [↓GO, ↓DRW, GA, GX, ren, zn, za, refs, z8, cst, zr, isC, bin, una, z7, zd, blt, asArg, zg, zc, zf, z6, E.mkS, unN, ze, zq, zb, GS, simprocAttr, GZ, c, c0, z1.zj, hget, d1, d2, zo, hsl, zF, IH, yY]
theorem RP (g : zx) (hB : GB g) (keys : List Str) (hk : keys.length ≤ 1048576) : zm (EV Tryz.prog pol) 42 [.agg (g.enc.map .t), .t (.list 1 (strs keys))] = some (.agg ((uC g keys).enc.map .t)) := by
 have hb := hB.len
 obtain ⟨top, packs⟩ := g
 simp only at hb
 have L1 := Tq keys hk top (by omega) packs top [] [] 0 rfl rfl (by omega)
 have L2 := Ts keys hk (.list 1 (strs top)) packs (by omega) hb.2.2 (top.filter (yi keys)).length (strs (top.filter (yi keys))) packs [] [] 0 rfl rfl (by omega)
 have ht1 : (strs (top.filter (yi keys))).take (top.filter (yi keys)).length = strs (top.filter (yi keys)) := by rw [← zh (top.filter (yi keys))]; simp
 have ht2 : (z1.zi (xi keys packs)).take (xi keys packs).length = z1.zi (xi keys packs) := by rw [← z1.zj (xi keys packs)]; simp
 simp only [uC, zx.enc, List.map_cons, List.map_nil, zG, List.nil_append, List.length_nil, Int.natCast_zero, show strs [] = [] from rfl, show z1.zi [] = [] from rfl] at L1 L2 ⊢
 generalize top.filter (yi keys) = Z1 at *
 generalize xi keys packs = Z2 at *
 clear hB hb hk
 apply zu
 refine zw rfl Tryz.func42 rfl (by kernel_rfl) ?_
 unfold Tryz.f42
 simp (disch := ((try simp only [LL]); omega)) only [↓GO, ↓DRW, GA, GX, ren, zn, za, refs, z8, cst, zr, isC, bin, una, z7, zd, blt, asArg, zg, zc, zf, z6, E.mkS, unN, ze, zq, zb, GS, simprocAttr, zD, zE, yK, yD, yI, yH, yL, gh1, yC, yr, yw, zO, mkO, yx, yt, y7, yJ, zI, yB, yA, y9, oc, oTs, oT, zM, zM.rowTs, yv, isL, Bool.not_false, Bool.true_and, Bool.and_true, Bool.and_self, List.flatMap_append, List.map_append, List.set_cons_zero, List.set_cons_succ, GZ, L1, L2, ht1, ht2, show vO ([] : List (List T)) = true from rfl, zF]
theorem kD (ps : List z1) (w : List Str) : (yc ps w).length ≤ ps.length := by
 have e : wR (yq snS ps (w.length + muS ps []) [] w) = yc ps w := mg ps _ w
 have h1 := uZ ps (w.length + muS ps []) [] w
 have h3 : uP ps [] ≤ ps.length := List.countP_le_length
 rw [← e, o6]
 simp only [List.length_nil] at h1
 omega
theorem ZO (g : zx) (hB : GB g) : zm (EV Tryz.prog pol) 38 [.agg (g.enc.map .t)] = some (.agg (g.enc.map .t)) := by
 have hb := hB.len
 obtain ⟨top, packs⟩ := g
 simp only at hb
 have t1 : (strs top).take top.length = strs top := by rw [← zh top]; simp
 cases packs with
 | nil =>
  have L : EV Tryz.prog pol (.loop 38 58 0 [.ptr 0 0 0, .ptr 1 0 0, .ptr 2 0 0, .t (.int .i64 0)] [.vs 2 [[.t (.list 1 (strs top)), .t (.list 6 [])]], .vs 2 [zG], .vs 2 [[.sl 3 0 top.length none, .nil 6]], .ts 1 (strs top)])
   = some (.loop (.exit 0) [.ptr 0 0 0, .ptr 1 0 0] [.vs 2 [zG], .vs 2 [[.sl 2 0 top.length none, .nil 6]], .ts 1 (strs top)]) := by
   simp only [zG]
   refine zk Tryz.func38 rfl rfl ?_
   simp (disch := ((try simp only [LL]); omega)) only [↓GO, ↓DRW, GA, GX, ren, zn, za, refs, z8, cst, zr, isC, bin, una, z7, zd, blt, asArg, zg, zc, zf, z6, E.mkS, unN, ze, zq, zb, GS, simprocAttr, GZ, zF, List.length_nil, Int.natCast_zero]
  simp only [zx.enc, z1.zi, List.map_cons, List.map_nil, zG] at L ⊢
  apply zu
  refine zw rfl Tryz.func38 rfl (by kernel_rfl) ?_
  unfold Tryz.f38
  simp (disch := ((try simp only [LL]); omega)) only [↓GO, ↓DRW, GA, GX, ren, zn, za, refs, z8, cst, zr, isC, bin, una, z7, zd, blt, asArg, zg, zc, zf, z6, E.mkS, unN, ze, zq, zb, GS, simprocAttr, GZ, L, t1, zh, zF, yY]
  try (refine yQ (by kernel_rfl) ?_; rfl)
 | cons x rest =>
  have hcx := gr x (hb.2.2 x (by simp))
  have L := T5 top (x :: rest) (by omega) (by omega) hb.2.2 rest [x] 1 rfl rfl
  have L0 : EV Tryz.prog pol (.loop 38 58 0 [.ptr 0 0 0, .ptr 1 0 0, .ptr 2 0 0, .t (.int .i64 0)] [.vs 2 [[.t (.list 1 (strs top)), .t (.list 6 (z1.zi (x :: rest)))]], .vs 2 [zG], .vs 2 [[.sl 3 0 top.length none, .nil 6]], .ts 1 (strs top)])
   = some (.loop (.exit 0) [.ptr 0 0 0, .ptr 1 0 0] [.vs 2 [zG], .vs 2 [[.sl 2 0 top.length none, .sl 3 0 (x :: rest).length none]], .ts 1 (strs top), .ts 6 (z1.zi (x :: rest))]) := by
   have c : decide ((0 : Int) < ((x :: rest).length : Int)) = true := by apply decide_eq_true; simp only [List.length_cons]; omega
   have hget : (z1.zi (x :: rest))[0]? = some x.enc := rfl
   rw [show z1.zi [x] = [x.enc] from rfl] at L
   obtain ⟨name, version, source, sums, dev, zz⟩ := x
   simp only [z1.enc, List.map_cons, List.map_nil, zG, List.length_cons, List.length_nil, Nat.zero_add] at hcx hget L ⊢
   generalize z1.mk name version source sums dev zz :: rest = cs at *
   refine zk Tryz.func38 rfl rfl ?_
   simp (disch := ((try simp only [LL]); omega)) only [↓GO, ↓DRW, GA, GX, ren, zn, za, refs, z8, cst, zr, isC, bin, una, z7, zd, blt, asArg, zg, zc, zf, z6, E.mkS, unN, ze, zq, zb, GS, simprocAttr, GZ, c, z1.zj, u6, hget, hcx, zo, Int.reduceAdd, L, zF, yY, List.length_nil, Int.natCast_zero]
   try (refine yQ (by kernel_rfl) ?_; first | rfl | exact L)
  clear L
  have t2 : (z1.zi (x :: rest)).take (x :: rest).length = z1.zi (x :: rest) := by rw [← z1.zj (x :: rest)]; simp
  generalize x :: rest = cs at *
  simp only [zx.enc, List.map_cons, List.map_nil, zG] at L0 ⊢
  apply zu
  refine zw rfl Tryz.func38 rfl (by kernel_rfl) ?_
  unfold Tryz.f38
  simp (disch := ((try simp only [LL]); omega)) only [↓GO, ↓DRW, GA, GX, ren, zn, za, refs, z8, cst, zr, isC, bin, una, z7, zd, blt, asArg, zg, zc, zf, z6, E.mkS, unN, ze, zq, zb, GS, simprocAttr, GZ, L0, t1, t2, zh, zF, yY]
  try (refine yQ (by kernel_rfl) ?_; rfl)
theorem c_prR (g : zx) (hB : GB g) : zm (EV Tryz.prog pol) 29 [.agg (g.enc.map .t)] = some (.agg ((uw g).enc.map .t)) := by
 have d1 := oG g hB
 cases q : y6 g with
 | true =>
  have hb := hB.len
  rw [q] at d1
  have d2 := c_reR g hB g.top (by omega) q
  have hk : (yc g.packs g.top).length ≤ 1048576 := Nat.le_trans (kD g.packs g.top) hb.1
  have d3 := RP g hB (yc g.packs g.top) hk
  rw [cr q] at d3
  generalize uw g = Z at *
  clear hB hb hk q
  obtain ⟨top, packs⟩ := g
  obtain ⟨zt, zp⟩ := Z
  simp only [zx.enc, List.map_cons, List.map_nil] at d1 d2 d3 ⊢
  apply zu
  refine zw rfl Tryz.func29 rfl (by kernel_rfl) ?_
  unfold Tryz.f29
  simp (disch := ((try simp only [LL]); omega)) only [↓GO, ↓DRW, GA, GX, ren, zn, za, refs, z8, cst, zr, isC, bin, una, z7, zd, blt, asArg, zg, zc, zf, z6, E.mkS, unN, ze, zq, zb, GS, simprocAttr, GZ, d1, d2, d3, zF]
  try (refine yQ (by kernel_rfl) ?_; rfl)
 | false =>
  rw [q] at d1
  have d2 := ZO g hB
  rw [show uw g = g by unfold uw; rw [q]; rfl]
  clear hB q
  obtain ⟨top, packs⟩ := g
  simp only [zx.enc, List.map_cons, List.map_nil] at d1 d2 ⊢
  apply zu
  refine zw rfl Tryz.func29 rfl (by kernel_rfl) ?_
  unfold Tryz.f29
  simp (disch := ((try simp only [LL]); omega)) only [↓GO, ↓DRW, GA, GX, ren, zn, za, refs, z8, cst, zr, isC, bin, una, z7, zd, blt, asArg, zg, zc, zf, z6, E.mkS, unN, ze, zq, zb, GS, simprocAttr, GZ, d1, d2, zF]
end Go.Proofs.YtonbkdklidfmfaaGreatDoor
/- Graphs pruned, the program's way. Conditions: those of each lemma. -/
namespace Go.Proofs.YtonbkdklidfmfaaGreatDoor
open E
set_option linter.unusedSimpArgs false
set_option linter.unusedVariables false
set_option maxRecDepth 100000
theorem Qu (keys : List Str) (hk : keys.length ≤ 1048576) (x : z1) (hb : x.zV ≤ 1048576) : zm (EV Tryz.prog pol) 80 (.agg (x.enc.map .t) :: [.t (.fp [.list 1 (strs keys)])]) = some (.t (.bool (!yi keys (keyOf x)))) := by
 have d1 := oF x (by omega)
 have d2 := RU keys hk (keyOf x)
 clear hb hk
 obtain ⟨name, version, source, sums, dev, zz⟩ := x
 simp only [z1.enc, List.map_cons, List.map_nil] at d1 d2 ⊢
 apply zu
 refine zw rfl Tryz.func80 rfl (by kernel_rfl) ?_
 unfold Tryz.f80
 simp (disch := ((try simp only [LL]); omega)) only [↓GO, ↓DRW, GA, GX, ren, zn, za, refs, z8, cst, zr, isC, bin, una, z7, zd, blt, asArg, zg, zc, zf, z6, E.mkS, unN, ze, zq, zb, GS, simprocAttr, GZ, d1, d2, zF]
 try (refine yQ (by kernel_rfl) ?_; first | rfl | simp (disch := ((try simp only [LL]); omega)) only [↓GO, ↓DRW, GA, GX, ren, zn, za, refs, z8, cst, zr, isC, bin, una, z7, zd, blt, asArg, zg, zc, zf, z6, E.mkS, unN, ze, zq, zb, GS, simprocAttr, GZ, d1, d2, zF])
theorem uq : ∀ l : List z1, vk (ocE (z1.zi l)) = some (z1.zi l)
 | [] => rfl
 | x :: l => by
  rw [show ocE (z1.zi (x :: l)) = x.enc.map oc :: ocE (z1.zi l) from rfl, show z1.zi (x :: l) = x.enc :: z1.zi l from rfl]
  have h : oTs (x.enc.map oc) = some x.enc := rfl
  simp only [vk, h, uq l]
theorem lX (keys : List Str) (ps : List z1) : (ps.filter fun x => !!yi keys (keyOf x)) = xg keys ps := by
 unfold xg
 congr 1
 funext x
 cases yi keys (keyOf x) <;> rfl
set_option maxHeartbeats 4000000 in
theorem cO (top : List Str) (p : z1) (rest : List z1) (hB : GB ⟨top, p :: rest⟩) (ho : y6 ⟨top, p :: rest⟩ = true) :
 EV Tryz.prog pol (.callO false 25 [.agg [.t (.list 1 (strs top)), .t (.list 6 (z1.zi (p :: rest)))]] []) = some (.call (.agg [.sl 0 0 top.length none, .sl 1 0 (xg (yc (p :: rest) top) (p :: rest)).length none]) [.ts 1 (strs top), .vs 6 (ocE (z1.zi (xg (yc (p :: rest) top) (p :: rest))))]) := by
 have hb := hB.len
 simp only at hb
 have hcp := ns top p rest (by omega) (by omega) hb.2.2
 have d1 := uT _ hB
 rw [ho] at d1
 have d2 := RL _ hB top (by omega) ho
 simp only at d2
 have hkl := kD (p :: rest) top
 generalize hcs : p :: rest = cs at *
 generalize yc cs top = keys at *
 obtain ⟨J', hJr, hJ', d3⟩ := QF 80 (.list 1 (strs keys)) (fun x => !yi keys (keyOf x)) cs (by omega) (fun x hx => Qu keys (by omega) x (hb.2.2 x hx)) cs.length rfl none
 rw [lX] at d3 hJ'
 generalize xg keys cs = Z at *
 have hZl : (ocE (z1.zi Z)).length = Z.length := by rw [zT, z1.zj]
 have htk : (ocE (z1.zi Z) ++ J').take Z.length = ocE (z1.zi Z) := by rw [← hZl]; simp
 have hle : Z.length ≤ (ocE (z1.zi Z) ++ J').length := by rw [List.length_append, hZl]; omega
 have ht1 : (strs top).take top.length = strs top := by rw [← zh top]; simp
 have f2 := uf Z
 have hA := xH (xb Z) hJr
 obtain ⟨h1, h2, _⟩ := hA
 simp only [zx.enc, List.map_cons, List.map_nil] at d1 d2
 clear hB hb ho hkl hJ' hcs hJr
 have hot : vk (ocE (z1.zi Z)) = some (z1.zi Z) := uq Z
 have hoc : (z1.zi Z).map (fun e => e.map oc) = ocE (z1.zi Z) := rfl
 by_cases hq : (ocE (z1.zi Z) ++ J').length = Z.length
 · have hE : ocE (z1.zi Z) ++ J' = ocE (z1.zi Z) := by have h := htk; rw [List.take_of_length_le (by omega)] at h; exact h
   rw [hE] at d3
   refine zN Tryz.func25 rfl (by kernel_rfl) ?_
   unfold Tryz.f25
   simp (disch := ((try simp only [LL]); omega)) only [↓GO, ↓DRW, GA, GX, ren, zn, za, refs, z8, cst, zr, isC, bin, una, z7, zd, blt, asArg, zg, zc, zf, z6, E.mkS, unN, ze, zq, zb, GS, simprocAttr, zD, zE, yK, yD, yI, yH, yL, gh1, yC, yr, yw, zO, mkO, yx, yt, y7, yJ, zI, yB, yA, y9, oc, oTs, oT, zM, zM.rowTs, yv, isL, Bool.not_false, Bool.true_and, Bool.and_true, Bool.and_self, List.flatMap_append, List.map_append, List.set_cons_zero, List.set_cons_succ, GZ, hcp, d1, d2, d3, hot, hoc, ht1, f2, zZ, zR, zT, z1.zj, List.drop_zero, wD, zF]
 · generalize ocE (z1.zi Z) ++ J' = E1 at *
   have hq' : (E1.length = Z.length) = False := eq_false hq
   refine zN Tryz.func25 rfl (by kernel_rfl) ?_
   unfold Tryz.f25
   simp (disch := ((try simp only [LL]); omega)) only [↓GO, ↓DRW, GA, GX, ren, zn, za, refs, z8, cst, zr, isC, bin, una, z7, zd, blt, asArg, zg, zc, zf, z6, E.mkS, unN, ze, zq, zb, GS, simprocAttr, zD, zE, yK, yD, yI, yH, yL, gh1, yC, yr, yw, zO, mkO, yx, yt, y7, yJ, zI, yB, yA, y9, oc, oTs, oT, zM, zM.rowTs, yv, isL, Bool.not_false, Bool.true_and, Bool.and_true, Bool.and_self, List.flatMap_append, List.map_append, List.set_cons_zero, List.set_cons_succ, GZ, hcp, d1, d2, d3, h1, h2, hq', htk, hle, hot, hoc, ht1, f2, zZ, zR, zT, z1.zj, List.drop_zero, wD, zF]
theorem QE (g : Nat) (cell : T) : EV Tryz.prog pol (.callO false 50 [.nil 6, .fn g [.ptr 0 0 0]] [.vs 1 [[.t cell]]]) = some (.call (.nil 6) [.vs 1 [[.t cell]]]) := by
 have d1 := vD g [.fp [cell]] (fun _ => false) [] (by simp) (fun x hx => by simp at hx)
 rw [show ixI (xR (fun _ => false) ([] : List z1) 0) = -1 from rfl, show z1.zi [] = [] from rfl] at d1
 refine zN Tryz.func50 rfl (by kernel_rfl) ?_
 unfold Tryz.f50
 simp (disch := ((try simp only [LL]); omega)) only [↓GO, ↓DRW, GA, GX, ren, zn, za, refs, z8, cst, zr, isC, bin, una, z7, zd, blt, asArg, zg, zc, zf, z6, E.mkS, unN, ze, zq, zb, GS, simprocAttr, zD, zE, yK, yD, yI, yH, yL, gh1, yC, yr, yw, zO, mkO, yx, yt, y7, yJ, zI, yB, yA, y9, oc, oTs, oT, zM, zM.rowTs, yv, isL, Bool.not_false, Bool.true_and, Bool.and_true, Bool.and_self, List.flatMap_append, List.map_append, List.set_cons_zero, List.set_cons_succ, GZ, d1, wD, List.drop_zero, beq_self_eq_true, zF]
theorem YZ (top : List Str) (hB : GB ⟨top, []⟩) (ho : y6 ⟨top, []⟩ = true) :
 EV Tryz.prog pol (.callO false 25 [.agg [.t (.list 1 (strs top)), .t (.list 6 (z1.zi []))]] []) = some (.call (.agg [.sl 0 0 top.length none, .sl 1 0 (xg (yc [] top) []).length none]) [.ts 1 (strs top), .vs 6 (ocE (z1.zi (xg (yc [] top) [])))]) := by
 have hb := hB.len
 simp only at hb
 have hcp := mR top (by omega)
 have d1 := uT _ hB
 rw [ho] at d1
 have d2 := RL _ hB top (by omega) ho
 simp only at d2
 rw [show xg (yc [] top) [] = [] from rfl]
 have d3 := QE 80 (.list 1 (strs (yc [] top)))
 generalize yc [] top = keys at *
 simp only [zx.enc, List.map_cons, List.map_nil, show z1.zi [] = [] from rfl, show ocE [] = [] from rfl, List.length_nil] at d1 d2 ⊢
 have ht1 : (strs top).take top.length = strs top := by rw [← zh top]; simp
 clear hB hb ho
 refine zN Tryz.func25 rfl (by kernel_rfl) ?_
 unfold Tryz.f25
 simp (disch := ((try simp only [LL]); omega)) only [↓GO, ↓DRW, GA, GX, ren, zn, za, refs, z8, cst, zr, isC, bin, una, z7, zd, blt, asArg, zg, zc, zf, z6, E.mkS, unN, ze, zq, zb, GS, simprocAttr, zD, zE, yK, yD, yI, yH, yL, gh1, yC, yr, yw, zO, mkO, yx, yt, y7, yJ, zI, yB, yA, y9, oc, oTs, oT, zM, zM.rowTs, yv, isL, Bool.not_false, Bool.true_and, Bool.and_true, Bool.and_self, List.flatMap_append, List.map_append, List.set_cons_zero, List.set_cons_succ, GZ, hcp, d1, d2, d3, ht1, List.drop_zero, wD, zF]
end Go.Proofs.YtonbkdklidfmfaaGreatDoor

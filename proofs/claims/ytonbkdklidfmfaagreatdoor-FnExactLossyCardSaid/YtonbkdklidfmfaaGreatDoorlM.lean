/- Joined: K41 V16 K39 K40 V17 K42 K43 K44 K45. Conditions: those of each lemma. -/
import Derived.Test.YtonbkdklidfmfaaGreatDoorlL
import Derived.Test.YtonbkdklidfmfaaGreatDoorlJ
import Derived.Test.YtonbkdklidfmfaaGreatDoorlK
set_option linter.unusedVariables false
set_option linter.unusedSimpArgs false
namespace Go.Proofs.YtonbkdklidfmfaaGreatDoor
open E
set_option linter.unusedSimpArgs false
set_option linter.unusedVariables false
set_option maxRecDepth 100000
set_option maxHeartbeats 4000000 in
theorem bQ (g : Nat) (p : z1 → Bool) (l : List z1) (hl : l.length ≤ 1048576) (hp : ∀ x ∈ l, zm (EV Tryz.prog pol) g (.agg (x.enc.map .t) :: []) = some (.t (.bool (p x)))) (n : Nat) (hn : n = l.length) (cap : Option Nat) :
 ∀ (R K : List z1) (J : List (List V)), (∀ x ∈ R, x ∈ l) → 1 ≤ J.length → noR J → K.length + J.length + R.length = l.length → ∃ J', noR J' ∧ (K ++ R.filter fun x => !p x).length + J'.length = l.length ∧
 EV Tryz.prog pol (.loop 50 122 1 [.sl 0 0 n cap, .t (.fn g []), .t (.int .i64 (K.length : Int)), .t (.int .i64 ((K.length + J.length : Nat) : Int))] [.vs 6 (ocE (z1.zi K) ++ J ++ ocE (z1.zi R))])
  = some (.loop (.exit 0) [.sl 0 0 n cap, .t (.int .i64 ((K ++ R.filter fun x => !p x).length : Int))] [.vs 6 (ocE (z1.zi (K ++ R.filter fun x => !p x)) ++ J')])
 | [], K, J, hR, hJ, hJr, hlen => by
  have c : decide (((K.length + J.length : Nat) : Int) < (n : Int)) = false := by simp at hlen; apply decide_eq_false; omega
  refine ⟨J, hJr, by simp at hlen; simpa using hlen, ?_⟩
  have hE := xH (xb K) hJr
  simp only [List.filter_nil, List.append_nil, show ocE (z1.zi []) = [] from rfl]
  obtain ⟨h1, h2, _⟩ := hE
  generalize ocE (z1.zi K) ++ J = E0 at *
  refine zk Tryz.func50 rfl rfl ?_
  simp (disch := ((try simp only [LL]); omega)) only [↓GO, ↓DRW, GA, GX, ren, zn, za, refs, z8, cst, zr, isC, bin, una, z7, zd, blt, asArg, zg, zc, zf, z6, E.mkS, unN, ze, zq, zb, GS, simprocAttr, zD, zE, yK, yD, yI, yH, yL, gh1, yC, yr, yw, zO, mkO, yx, yt, y7, yJ, zI, yB, yA, y9, oc, oTs, oT, zM, zM.rowTs, yv, isL, Bool.not_false, Bool.true_and, Bool.and_true, Bool.and_self, List.flatMap_append, List.map_append, List.set_cons_zero, List.set_cons_succ, GZ, c, h1, h2, zF]
 | x :: R, K, J, hR, hJ, hJr, hlen => by
  simp only [List.length_cons] at hlen
  have c : decide (((K.length + J.length : Nat) : Int) < (n : Int)) = true := by apply decide_eq_true; omega
  have c0 : decide ((0 : Int) ≤ ((K.length + J.length : Nat) : Int)) = true := by apply decide_eq_true; omega
  have c00 : (0 : Int) ≤ ((K.length + J.length : Nat) : Int) := by omega
  have c1 : decide ((0 : Int) ≤ (K.length : Int)) = true := by apply decide_eq_true; omega
  have c11 : (0 : Int) ≤ (K.length : Int) := by omega
  have c2 : decide ((K.length : Int) < (n : Int)) = true := by apply decide_eq_true; omega
  have d1 := hp x (hR x (by simp))
  have hkl : K.length + J.length ≤ 1048576 := by omega
  have hPl : (ocE (z1.zi K) ++ J).length = K.length + J.length := by rw [List.length_append, zT, z1.zj]
  have hPr := xH (xb K) hJr
  have hBr := xb R
  have hf1 := xo x.sums
  have hf2 := yp x.zz
  have hs1 := zy.zj x.sums
  have hs2 := zh x.zz
  rw [dS, List.filter_cons]
  cases q : p x with
  | true =>
   rw [q] at d1
   obtain ⟨J', hJ1, hJ2, IH⟩ := bQ g p l hl hp n hn cap R K (J ++ [fgP x]) (fun y hy => hR y (by simp [hy])) (by simp) (xH hJr (oC x)) (by simp; omega)
   rw [show ocE (z1.zi K) ++ (J ++ [fgP x]) ++ ocE (z1.zi R) = (ocE (z1.zi K) ++ J) ++ fgP x :: ocE (z1.zi R) by simp, show ((K.length + (J ++ [fgP x]).length : Nat) : Int) = ((K.length + J.length : Nat) : Int) + 1 by simp; omega] at IH
   refine ⟨J', hJ1, by simpa using hJ2, ?_⟩
   simp only [Bool.not_true, Bool.false_eq_true, if_false]
   obtain ⟨hP1, hP2, _⟩ := hPr
   obtain ⟨hB1, hB2, _⟩ := hBr
   have hg := fun y => xJ (ocE (z1.zi K) ++ J) (ocE (z1.zi R)) y (K.length + J.length) hPl
   have hs := fun y z => xw (ocE (z1.zi K) ++ J) (ocE (z1.zi R)) y z (K.length + J.length) hPl
   obtain ⟨name, version, source, sums, dev, zz⟩ := x
   simp only [fgP, z1.enc, List.map_cons, List.map_nil] at d1 IH hf1 hf2 hs1 hs2 ⊢
   clear hJ hlen hJr hJ1 hJ2 hp hR
   generalize ocE (z1.zi (K ++ R.filter fun x => !p x)) ++ J' = Z at *
   generalize (K ++ R.filter fun x => !p x).length = zl at *
   generalize ocE (z1.zi K) ++ J = P at *
   generalize ocE (z1.zi R) = B at *
   generalize zy.zi sums = es1 at *
   generalize strs zz = es2 at *
   have hk1 := List.take_of_length_le (Nat.le_of_eq hs1)
   have hk2 := List.take_of_length_le (Nat.le_of_eq hs2)
   generalize sums.length = n1 at *
   generalize zz.length = n2 at *
   generalize K.length = kl at *
   generalize hkj : kl + J.length = kj at *
   refine zk Tryz.func50 rfl rfl ?_
   simp (disch := ((try simp only [LL]); omega)) only [↓GO, ↓DRW, GA, GX, ren, zn, za, refs, z8, cst, zr, isC, bin, una, z7, zd, blt, asArg, zg, zc, zf, z6, E.mkS, unN, ze, zq, zb, GS, simprocAttr, zD, zE, yK, yD, yI, yH, yL, gh1, yC, yr, yw, zO, mkO, yx, yt, y7, yJ, zI, yB, yA, y9, oc, oTs, oT, zM, zM.rowTs, yv, isL, Bool.not_false, Bool.true_and, Bool.and_true, Bool.and_self, List.flatMap_append, List.map_append, List.set_cons_zero, List.set_cons_succ, GZ, c, c0, c00, if_true, Int.toNat_natCast, hg, hs, hf1, hf2, hs1, hs2, hk1, hk2, d1, hP1, hP2, hB1, hB2, zo, Bool.not_true, zF, IH]
  | false =>
   rw [q] at d1
   obtain ⟨j0, Jt, rfl⟩ : ∃ j0 Jt, J = j0 :: Jt := by cases J with | nil => simp at hJ | cons a t => exact ⟨a, t, rfl⟩
   have hJt := ey hJr
   obtain ⟨J', hJ1, hJ2, IH⟩ := bQ g p l hl hp n hn cap R (K ++ [x]) (Jt ++ [fgP x]) (fun y hy => hR y (by simp [hy])) (by simp) (xH hJt (oC x)) (by simp at hlen ⊢; omega)
   rw [show ocE (z1.zi (K ++ [x])) ++ (Jt ++ [fgP x]) ++ ocE (z1.zi R) = (ocE (z1.zi K) ++ [V.t (.str x.name), .t (.str x.version), .t (.str x.source), .o (.list 2 (zy.zi x.sums)), .t (.bool x.dev), .o (.list 1 (strs x.zz))] :: Jt) ++ fgP x :: ocE (z1.zi R) by rw [wJ, show ocE (z1.zi [x]) = [[V.t (.str x.name), .t (.str x.version), .t (.str x.source), .o (.list 2 (zy.zi x.sums)), .t (.bool x.dev), .o (.list 1 (strs x.zz))]] from rfl]; simp,
    show ((K ++ [x]).length : Int) = (K.length : Int) + 1 by simp, show (((K ++ [x]).length + (Jt ++ [fgP x]).length : Nat) : Int) = ((K.length + (j0 :: Jt).length : Nat) : Int) + 1 by simp; omega] at IH
   refine ⟨J', hJ1, by simpa using hJ2, ?_⟩
   simp only [Bool.not_false, if_true]
   rw [show K ++ x :: R.filter (fun x => !p x) = (K ++ [x]) ++ R.filter fun x => !p x by simp]
   have hj1 : refs.refss j0 = [] := by have := hJr.1; rw [List.flatMap_cons, List.append_eq_nil_iff] at this; exact this.1
   have hj2 : ∀ f, ren.rens f j0 = j0 := fun f => by have := hJr.2.1 f; rw [List.map_cons] at this; exact (List.cons.inj this).1
   obtain ⟨hB1, hB2, _⟩ := hBr
   have hKl : (ocE (z1.zi K)).length = K.length := by rw [zT, z1.zj]
   have hA := xb K
   have hQl : ∀ z, (ocE (z1.zi K) ++ z :: Jt).length = K.length + (j0 :: Jt).length := fun z => by simp [zT, z1.zj]
   have hg3 := fun z y => xJ (ocE (z1.zi K) ++ z :: Jt) (ocE (z1.zi R)) y (K.length + (j0 :: Jt).length) (hQl z)
   have hs4 := fun z y y' => xw (ocE (z1.zi K) ++ z :: Jt) (ocE (z1.zi R)) y y' (K.length + (j0 :: Jt).length) (hQl z)
   have hs2' : ∀ y z, (ocE (z1.zi K) ++ j0 :: Jt ++ y :: ocE (z1.zi R)).set K.length z = (ocE (z1.zi K) ++ z :: Jt) ++ y :: ocE (z1.zi R) := fun y z => by
    rw [List.append_assoc, List.cons_append, xw _ _ _ _ _ hKl, List.append_assoc, List.cons_append]
   have hg2' : ∀ y z, ((ocE (z1.zi K) ++ z :: Jt) ++ y :: ocE (z1.zi R))[K.length]? = some z := fun y z => by rw [List.append_assoc, List.cons_append]; exact xJ _ _ _ _ hKl
   have hs3' : ∀ y z z', ((ocE (z1.zi K) ++ z :: Jt) ++ y :: ocE (z1.zi R)).set K.length z' = (ocE (z1.zi K) ++ z' :: Jt) ++ y :: ocE (z1.zi R) := fun y z z' => by
    rw [List.append_assoc, List.cons_append, xw _ _ _ _ _ hKl, List.append_assoc, List.cons_append]
   obtain ⟨Q, hQ⟩ : ∃ Q : List V → List (List V), ∀ z, Q z = ocE (z1.zi K) ++ z :: Jt := ⟨_, fun _ => rfl⟩
   have hQ1 : ∀ z, (Q z).flatMap refs.refss = refs.refss z := fun z => by rw [hQ, List.flatMap_append, List.flatMap_cons, hA.1, hJt.1]; simp
   have hQ2 : ∀ z f, (Q z).map (ren.rens f) = Q (ren.rens f z) := fun z f => by rw [hQ, hQ, List.map_append, List.map_cons, hA.2.1, hJt.2.1]
   have hj0l : j0.length = 6 := hJr.2.2 j0 (by simp)
   have hj6 : 6 ≤ j0.length := by omega
   have hd6 : j0.drop 6 = [] := List.drop_of_length_le (by omega)
   clear hj0l
   simp only [← hQ] at hg3 hs4 hs2' hg2' hs3' IH ⊢
   clear hQ hQl hJt hA hKl hPr hPl
   obtain ⟨name, version, source, sums, dev, zz⟩ := x
   simp only [fgP, z1.enc, List.map_cons, List.map_nil] at d1 IH hf1 hf2 hs1 hs2 ⊢
   clear hJ hlen hJr hJ1 hJ2 hp hR
   generalize ocE (z1.zi ((K ++ [z1.mk name version source sums dev zz]) ++ R.filter fun x => !p x)) ++ J' = Z at *
   generalize ((K ++ [z1.mk name version source sums dev zz]) ++ R.filter fun x => !p x).length = zl at *
   generalize ocE (z1.zi R) = B at *
   generalize zy.zi sums = es1 at *
   generalize strs zz = es2 at *
   have hk1 := List.take_of_length_le (Nat.le_of_eq hs1)
   have hk2 := List.take_of_length_le (Nat.le_of_eq hs2)
   generalize sums.length = n1 at *
   generalize zz.length = n2 at *
   generalize K.length = kl at *
   generalize hkj : kl + (j0 :: Jt).length = kj at *
   have hkk : ¬ (kl = kj) := by rw [← hkj]; simp
   refine zk Tryz.func50 rfl rfl ?_
   simp (maxSteps := 1000000) (disch := ((try simp only [LL]); omega)) only [↓GO, ↓DRW, GA, GX, ren, zn, za, refs, z8, cst, zr, isC, bin, una, z7, zd, blt, asArg, zg, zc, zf, z6, E.mkS, unN, ze, zq, zb, GS, simprocAttr, zD, zE, yK, yD, yI, yH, yL, gh1, yC, yr, yw, zO, mkO, yx, yt, y7, yJ, zI, yB, yA, y9, oc, oTs, oT, zM, zM.rowTs, yv, isL, Bool.not_false, Bool.true_and, Bool.and_true, Bool.and_self, List.flatMap_append, List.map_append, List.set_cons_zero, List.set_cons_succ, GZ, c, c0, c00, c1, c11, c2, if_true, Int.toNat_natCast, hg2', hs3', hg3, hs4, hQ1, hQ2, hj1, hj2, hj6, hd6, hf1, hf2, hs1, hs2, hk1, hk2, d1, hB1, hB2, zo, Bool.not_false, zF, IH]
theorem Th (g : Nat) (p : z1 → Bool) (l : List z1) (hl : l.length ≤ 1048576) (hp : ∀ x ∈ l, zm (EV Tryz.prog pol) g (.agg (x.enc.map .t) :: []) = some (.t (.bool (p x)))) (n : Nat) (hn : n = l.length) (cap : Option Nat) :
 ∃ J', noR J' ∧ (l.filter fun x => !p x).length + J'.length = l.length ∧
 EV Tryz.prog pol (.callO false 50 [.sl 0 0 n cap, .t (.fn g [])] [.vs 6 (ocE (z1.zi l))])
  = some (.call (.sl 0 0 (l.filter fun x => !p x).length cap) [.vs 6 (ocE (z1.zi (l.filter fun x => !p x)) ++ J')]) := by
 have d1 := vD g [] p l (by omega) hp
 have ht : (ocE (z1.zi l)).take n = ocE (z1.zi l) := List.take_of_length_le (by rw [zT, z1.zj]; omega)
 have f2 := uf l
 cases hf : xR p l 0 with
 | none =>
  rw [hf] at d1
  have hw := Zz p l hf
  refine ⟨[], pH, by rw [hw]; simp, ?_⟩
  rw [hw, List.append_nil, ← hn]
  simp only [ixI] at d1
  refine zN Tryz.func50 rfl (by kernel_rfl) ?_
  unfold Tryz.f50
  simp (disch := ((try simp only [LL]); omega)) only [↓GO, ↓DRW, GA, GX, ren, zn, za, refs, z8, cst, zr, isC, bin, una, z7, zd, blt, asArg, zg, zc, zf, z6, E.mkS, unN, ze, zq, zb, GS, simprocAttr, zD, zE, yK, yD, yI, yH, yL, gh1, yC, yr, yw, zO, mkO, yx, yt, y7, yJ, zI, yB, yA, y9, oc, oTs, oT, zM, zM.rowTs, yv, isL, Bool.not_false, Bool.true_and, Bool.and_true, Bool.and_self, List.flatMap_append, List.map_append, List.set_cons_zero, List.set_cons_succ, GZ, d1, wD, ht, f2, wI, zZ, zR, List.drop_zero, beq_self_eq_true, zF]
 | some i =>
  rw [hf] at d1
  obtain ⟨pre, x, post, e1, e2, e3, e4⟩ := qA _ l 0 i hf
  simp only [Nat.zero_add] at e2
  have hw : (l.filter fun x => !p x) = pre ++ post.filter fun x => !p x := by
   rw [e1, List.filter_append, List.filter_cons, e3]
   simp only [Bool.not_true, Bool.false_eq_true, if_false]
   congr 1
   exact List.filter_eq_self.2 fun y hy => by rw [e4 y hy]; rfl
  have hlen : pre.length + 1 + post.length = l.length := by have h9 := congrArg List.length e1; simp at h9; omega
  have hmap : Option.map (fun x : Nat => x) cap = cap := by cases cap <;> rfl
  obtain ⟨J', hJr, hJ', L⟩ := bQ g p l hl hp n hn cap post pre (ocE (z1.zi [x])) (fun y hy => by rw [e1]; simp [hy]) (by rw [zT, z1.zj]; exact Nat.le_refl _) (xb _) (by rw [zT, z1.zj]; simpa using hlen)
  rw [← wJ, ← wJ, show pre ++ [x] ++ post = l by rw [e1]; simp, show ((pre.length + (ocE (z1.zi [x])).length : Nat) : Int) = (pre.length : Int) + 1 by rw [zT, z1.zj]; rfl, e2] at L
  have c0 : ((i : Int) == -1) = false := by rw [beq_eq_false_iff_ne]; omega
  rw [← hw] at L hJ'
  have hwl : (l.filter fun x => !p x).length ≤ n := by omega
  generalize hZ : (l.filter fun x => !p x) = Z at *
  have hZl : (ocE (z1.zi Z)).length = Z.length := by rw [zT, z1.zj]
  have htk : (ocE (z1.zi Z) ++ J').take Z.length = ocE (z1.zi Z) := by rw [← hZl]; simp
  have hdk : (ocE (z1.zi Z) ++ J').drop (Z.length + (n - Z.length)) = [] := List.drop_of_length_le (by rw [List.length_append, hZl]; omega)
  have hEl : (ocE (z1.zi Z) ++ J').length = n := by rw [List.length_append, hZl, hn]; exact hJ'
  have hE := xH (xb Z) hJr
  obtain ⟨h1, h2, _⟩ := hE
  refine ⟨List.replicate (n - Z.length) zPk, Y1 _, by rw [List.length_replicate]; omega, ?_⟩
  obtain ⟨h3, h4, _⟩ := xH (xb Z) (Y1 (n - Z.length))
  have hil : i ≤ 1048576 := by omega
  have hnl : n ≤ 1048576 := by omega
  simp only [ixI] at d1
  clear hw hJ' e1 hf e4 e3 hlen hp hl
  have c1 : Z.length + (n - Z.length) ≤ n := by omega
  simp only [zPk] at h3 h4 ⊢
  generalize ocE (z1.zi Z) ++ J' = E1 at *
  generalize ocE (z1.zi Z) = E2 at *
  refine zN Tryz.func50 rfl (by kernel_rfl) ?_
  unfold Tryz.f50
  simp (disch := ((try simp only [LL]); omega)) only [↓GO, ↓DRW, GA, GX, ren, zn, za, refs, z8, cst, zr, isC, bin, una, z7, zd, blt, asArg, zg, zc, zf, z6, E.mkS, unN, ze, zq, zb, GS, simprocAttr, zD, zE, yK, yD, yI, yH, yL, gh1, yC, yr, yw, zO, mkO, yx, yt, y7, yJ, zI, yB, yA, y9, oc, oTs, oT, zM, zM.rowTs, yv, isL, Bool.not_false, Bool.true_and, Bool.and_true, Bool.and_self, List.flatMap_append, List.map_append, List.set_cons_zero, List.set_cons_succ, GZ, d1, wD, ht, f2, wI, zZ, zR, List.drop_zero, c0, L, hEl, htk, hdk, h1, h2, h3, h4, zo, List.append_nil, zF, Nat.zero_add, Nat.sub_zero, c1, and_self, if_true, List.append_assoc, hmap]
end Go.Proofs.YtonbkdklidfmfaaGreatDoor
/- What a format keeps of a graph, plain. Conditions: none. -/
namespace Go.Proofs.YtonbkdklidfmfaaGreatDoor
open E
set_option linter.unusedVariables false
set_option linter.unusedSimpArgs false
set_option maxRecDepth 100000
def sH1 : Str := [104, 49]
def TA : Str := [115, 104, 97, 50, 53, 54]
def xk : Str := [114, 111, 111, 116]
/-- a sum is kept -/
def xm (f : Int) (x : zy) : Bool := cond (f == 2 || f == 4) (x.alg == TA) (cond (f == 3) (x.alg == sH1) (!(x.alg == sH1)))
def u9 (f : Int) : Prop := f = 0 ∨ f = 1 ∨ f = 2 ∨ f = 3 ∨ f = 4
/-- a pack as a format keeps it -/
def zU (f : Int) (p : z1) : z1 := ⟨p.name, p.version, cond (f == 3 || f == 4) [] p.source, p.sums.filter (xm f), cond (f == 1 || f == 2 || f == 3) false p.dev, cond (f == 3 || f == 4) [] p.zz⟩
def xW (p q : z1) : Bool := q.name == p.name && q.dev == p.dev
/-- a pack is not kept, these being kept -/
def vz (f : Int) (acc : List z1) (p : z1) : Bool := (f == 4 && acc.any (xW p)) || ((f == 2 && p.name == xk) || (f == 3 && p.sums.isEmpty))
def xr (f : Int) : List z1 → List z1 → List z1
 | acc, [] => acc
 | acc, p :: r => cond (vz f acc (zU f p)) (xr f acc r) (xr f (acc ++ [zU f p]) r)
theorem rq (f : Int) : ∀ (r acc : List z1), (xr f acc r).length ≤ acc.length + r.length
 | [], acc => by rw [xr]; simp
 | p :: r, acc => by
  rw [xr]
  cases vz f acc (zU f p) with
  | true => have := rq f r acc; rw [cond_true]; simp; omega
  | false => have := rq f r (acc ++ [zU f p]); rw [cond_false]; simp at this ⊢; omega
end Go.Proofs.YtonbkdklidfmfaaGreatDoor
/- What a format keeps of a graph, the law's own way. Conditions: those of each lemma. -/
namespace Go.Proofs.YtonbkdklidfmfaaGreatDoor
open E
set_option linter.unusedSimpArgs false
set_option linter.unusedVariables false
set_option maxRecDepth 100000
theorem Tv (f : Int) (hf : u9 f) (ss : List zy) (hl : ss.length ≤ 1048576) : ∀ (rest pre acc : List zy) (m : Nat) (cap : Option Nat), ss = pre ++ rest → m = acc.length → m + rest.length ≤ 1073741824 → ∃ cap',
 EV Tryz.prog pol (.loop 92 58 0 [.t (.int .i64 f), .t (.list 2 (zy.zi ss)), .sl 0 0 m cap, .t (.int .i64 (pre.length : Int))] [.ts 2 (zy.zi acc)])
  = some (.loop (.exit 0) [.sl 0 0 (acc ++ rest.filter (xm f)).length cap'] [.ts 2 (zy.zi (acc ++ rest.filter (xm f)))])
 | [], pre, acc, m, cap, h, hm, hmM => by
  have c : decide ((pre.length : Int) < (ss.length : Int)) = false := by simp [h]
  refine ⟨cap, ?_⟩
  rw [List.filter_nil, List.append_nil, ← hm]
  refine zk Tryz.func92 rfl rfl ?_
  simp (disch := ((try simp only [LL]); omega)) only [↓GO, ↓DRW, GA, GX, ren, zn, za, refs, z8, cst, zr, isC, bin, una, z7, zd, blt, asArg, zg, zc, zf, z6, E.mkS, unN, ze, zq, zb, GS, simprocAttr, GZ, c, zy.zj, zF]
 | x :: rest, pre, acc, m, cap, h, hm, hmM => by
  have c : decide ((pre.length : Int) < (ss.length : Int)) = true := by simp [h]; omega
  have c0 : decide ((0 : Int) ≤ (pre.length : Int)) = true := by simp
  have hget : (zy.zi ss)[pre.length]? = some x.enc := by rw [h]; simp [zy.zi]
  have hlen : pre.length + rest.length + 1 ≤ ss.length := by rw [h]; simp; omega
  have hsl : (zy.zi acc).length = m := by rw [show (zy.zi acc).length = acc.length by simp [zy.zi], hm]
  have hsl2 : (zy.zi ss).length = ss.length := by simp [zy.zi]
  simp only [List.length_cons] at hmM
  have k : xm f x = cond (f == 2 || f == 4) (x.alg == TA) (cond (f == 3) (x.alg == sH1) (!(x.alg == sH1))) := rfl
  rw [List.filter_cons]
  cases q : xm f x with
  | true =>
   rw [q] at k
   obtain ⟨cap', IH⟩ := Tv f hf ss hl rest (pre ++ [x]) (acc ++ [x]) (m + 1) none (by rw [h]; simp) (by simp [hm]) (by omega)
   rw [show ((pre ++ [x]).length : Int) = (pre.length : Int) + 1 by simp, show zy.zi (acc ++ [x]) = zy.zi acc ++ [x.enc] by simp [zy.zi], List.append_assoc, show [x] ++ rest.filter (xm f) = x :: rest.filter (xm f) from rfl] at IH
   simp only [if_true] at IH ⊢
   refine ⟨cap', ?_⟩
   generalize acc ++ x :: rest.filter (xm f) = Z at *
   clear h
   obtain ⟨alg, bytes⟩ := x
   simp only [zy.enc, TA, sH1] at hget IH k ⊢
   rcases hf with rfl | rfl | rfl | rfl | rfl <;> simp only [Int.reduceBEq, Bool.or_false, Bool.or_true, Bool.false_or, cond_true, cond_false] at k <;>
    (cases q1 : (alg == [104, 49]) <;> cases q2 : (alg == [115, 104, 97, 50, 53, 54]) <;> simp only [q1, q2, Bool.not_true, Bool.not_false, reduceCtorEq] at k)
   all_goals
    refine zk Tryz.func92 rfl rfl ?_
    simp (disch := ((try simp only [LL]); omega)) only [↓GO, ↓DRW, GA, GX, ren, zn, za, refs, z8, cst, zr, isC, bin, una, z7, zd, blt, asArg, zg, zc, zf, z6, E.mkS, unN, ze, zq, zb, GS, simprocAttr, GZ, c, c0, hsl2, hget, q1, q2, bne, Bool.not_true, Bool.not_false, zo, hsl, zF, IH, yY]
  | false =>
   rw [q] at k
   obtain ⟨cap', IH⟩ := Tv f hf ss hl rest (pre ++ [x]) acc m cap (by rw [h]; simp) hm (by omega)
   rw [show ((pre ++ [x]).length : Int) = (pre.length : Int) + 1 by simp] at IH
   simp only [Bool.false_eq_true, if_false] at IH ⊢
   refine ⟨cap', ?_⟩
   generalize acc ++ rest.filter (xm f) = Z at *
   clear h
   obtain ⟨alg, bytes⟩ := x
   simp only [zy.enc, TA, sH1] at hget IH k ⊢
   rcases hf with rfl | rfl | rfl | rfl | rfl <;> simp only [Int.reduceBEq, Bool.or_false, Bool.or_true, Bool.false_or, cond_true, cond_false] at k <;>
    (cases q1 : (alg == [104, 49]) <;> cases q2 : (alg == [115, 104, 97, 50, 53, 54]) <;> simp only [q1, q2, Bool.not_true, Bool.not_false, reduceCtorEq] at k)
   all_goals
    refine zk Tryz.func92 rfl rfl ?_
    simp (disch := ((try simp only [LL]); omega)) only [↓GO, ↓DRW, GA, GX, ren, zn, za, refs, z8, cst, zr, isC, bin, una, z7, zd, blt, asArg, zg, zc, zf, z6, E.mkS, unN, ze, zq, zb, GS, simprocAttr, GZ, c, c0, hsl2, hget, q1, q2, bne, Bool.not_true, Bool.not_false, zo, hsl, zF, IH, yY]
theorem c_kpR (f : Int) (hf : u9 f) (ss : List zy) (hl : ss.length ≤ 1048576) : zm (EV Tryz.prog pol) 92 [.t (.int .i64 f), .t (.list 2 (zy.zi ss))] = some (.t (.list 2 (zy.zi (ss.filter (xm f))))) := by
 obtain ⟨cap, L⟩ := Tv f hf ss hl ss [] [] 0 (some 0) rfl rfl (by omega)
 have ht : (zy.zi (ss.filter (xm f))).take (ss.filter (xm f)).length = zy.zi (ss.filter (xm f)) := List.take_of_length_le (by simp [zy.zi])
 simp only [List.length_nil, Int.natCast_zero, List.nil_append, show zy.zi [] = [] from rfl] at L
 generalize ss.filter (xm f) = Z at *
 apply zu
 refine zw rfl Tryz.func92 rfl (by kernel_rfl) ?_
 unfold Tryz.f92
 simp (disch := ((try simp only [LL]); omega)) only [↓GO, ↓DRW, GA, GX, ren, zn, za, refs, z8, cst, zr, isC, bin, una, z7, zd, blt, asArg, zg, zc, zf, z6, E.mkS, unN, ze, zq, zb, GS, simprocAttr, GZ, L, ht, zF]
theorem RM (f : Int) (hf : u9 f) (p : z1) (hb : p.zV ≤ 1048576) : zm (EV Tryz.prog pol) 39 [.t (.int .i64 f), .agg (p.enc.map .t)] = some (.agg ((zU f p).enc.map .t)) := by
 have d1 := gr p hb
 have d2 := c_kpR f hf p.sums (by unfold z1.zV at hb; omega)
 obtain ⟨name, version, source, sums, dev, zz⟩ := p
 simp only [z1.enc, zU, List.map_cons, List.map_nil] at d1 d2 ⊢
 generalize sums.filter (xm f) = Z at *
 rcases hf with rfl | rfl | rfl | rfl | rfl <;> simp only [Int.reduceBEq, Bool.or_false, Bool.or_true, Bool.false_or, cond_true, cond_false]
 all_goals
  apply zu
  refine zw rfl Tryz.func39 rfl (by kernel_rfl) ?_
  unfold Tryz.f39
  simp (disch := ((try simp only [LL]); omega)) only [↓GO, ↓DRW, GA, GX, ren, zn, za, refs, z8, cst, zr, isC, bin, una, z7, zd, blt, asArg, zg, zc, zf, z6, E.mkS, unN, ze, zq, zb, GS, simprocAttr, GZ, d1, d2, zF, show strs [] = [] from rfl]
theorem Ry (acc : List z1) (hl : acc.length ≤ 1048576) (p : z1) : ∀ (rest pre : List z1), acc = pre ++ rest →
 EV Tryz.prog pol (.loop 40 26 0 [.t (.int .i64 4), .t (.list 6 (z1.zi acc)), .ptr 0 0 0, .t (.int .i64 (pre.length : Int))] [.vs 6 [p.enc.map .t]])
  = some (cond (rest.any (xW p)) (.loop .ret [.t (.int .i64 4), .ptr 0 0 0, .t (.bool true)] [.vs 6 [p.enc.map .t]]) (.loop (.exit 0) [.t (.int .i64 4), .ptr 0 0 0, .bad] [.vs 6 [p.enc.map .t]]))
 | [], pre, h => by
  have c : decide ((pre.length : Int) < (acc.length : Int)) = false := by simp [h]
  clear h
  obtain ⟨name, version, source, sums, dev, zz⟩ := p
  simp only [z1.enc, List.map_cons, List.map_nil]
  refine zk Tryz.func40 rfl rfl ?_
  simp (disch := ((try simp only [LL]); omega)) only [↓GO, ↓DRW, GA, GX, ren, zn, za, refs, z8, cst, zr, isC, bin, una, z7, zd, blt, asArg, zg, zc, zf, z6, E.mkS, unN, ze, zq, zb, GS, simprocAttr, GZ, c, z1.zj, zF, List.any_nil, cond_false]
 | x :: rest, pre, h => by
  have c : decide ((pre.length : Int) < (acc.length : Int)) = true := by simp [h]; omega
  have c0 : decide ((0 : Int) ≤ (pre.length : Int)) = true := by simp
  have hget : (z1.zi acc)[pre.length]? = some x.enc := by rw [h]; simp [z1.zi]
  have hlen : pre.length + rest.length + 1 ≤ acc.length := by rw [h]; simp; omega
  have IH := Ry acc hl p rest (pre ++ [x]) (by rw [h]; simp)
  rw [show ((pre ++ [x]).length : Int) = (pre.length : Int) + 1 by simp] at IH
  rw [List.any_cons, show xW p x = (x.name == p.name && x.dev == p.dev) from rfl]
  clear h
  generalize rest.any (xW p) = an at *
  obtain ⟨n1, v1, s1, m1, d1, k1⟩ := x
  obtain ⟨n2, v2, s2, m2, d2, k2⟩ := p
  simp only [z1.enc, List.map_cons, List.map_nil] at hget IH ⊢
  cases q1 : (n1 == n2) <;> cases q2 : (d1 == d2) <;> simp only [Bool.true_and, Bool.false_and, Bool.true_or, Bool.false_or, cond_true]
  all_goals
   refine zk Tryz.func40 rfl rfl ?_
   simp (disch := ((try simp only [LL]); omega)) only [↓GO, ↓DRW, GA, GX, ren, zn, za, refs, z8, cst, zr, isC, bin, una, z7, zd, blt, asArg, zg, zc, zf, z6, E.mkS, unN, ze, zq, zb, GS, simprocAttr, GZ, c, c0, z1.zj, hget, q1, q2, zo, zF, IH]
   try (refine yQ (by kernel_rfl) ?_; first | rfl | simp (disch := ((try simp only [LL]); omega)) only [↓GO, ↓DRW, GA, GX, ren, zn, za, refs, z8, cst, zr, isC, bin, una, z7, zd, blt, asArg, zg, zc, zf, z6, E.mkS, unN, ze, zq, zb, GS, simprocAttr, GZ, IH, zo, zF])
theorem RQ (f : Int) (hf : u9 f) (acc : List z1) (hl : acc.length ≤ 1048576) (p : z1) : zm (EV Tryz.prog pol) 40 [.t (.int .i64 f), .t (.list 6 (z1.zi acc)), .agg (p.enc.map .t)] = some (.t (.bool (vz f acc p))) := by
 have L4 := Ry acc hl p acc [] rfl
 have he : (((zy.zi p.sums).length : Int) == 0) = p.sums.isEmpty := by
  rw [show (zy.zi p.sums).length = p.sums.length by simp [zy.zi]]
  cases p.sums with
  | nil => rfl
  | cons a r => simp; omega
 have hg : vz f acc p = ((f == 4 && acc.any (xW p)) || ((f == 2 && p.name == xk) || (f == 3 && p.sums.isEmpty))) := rfl
 rw [hg]
 clear hg
 simp only [List.length_nil, Int.natCast_zero] at L4
 generalize acc.any (xW p) = an at *
 obtain ⟨name, version, source, sums, dev, zz⟩ := p
 simp only [z1.enc, List.map_cons, List.map_nil, xk] at L4 he ⊢
 generalize sums.isEmpty = em at *
 have h0 : u9 f → (f == 4) = false → EV Tryz.prog pol (.loop 40 26 0 [.t (.int .i64 f), .t (.list 6 (z1.zi acc)), .ptr 0 0 0, .t (.int .i64 0)] [.vs 6 [[.t (.str name), .t (.str version), .t (.str source), .t (.list 2 (zy.zi sums)), .t (.bool dev), .t (.list 1 (strs zz))]]])
  = some (.loop (.exit 0) [.t (.int .i64 f), .ptr 0 0 0, .bad] [.vs 6 [[.t (.str name), .t (.str version), .t (.str source), .t (.list 2 (zy.zi sums)), .t (.bool dev), .t (.list 1 (strs zz))]]]) := by
  intro _ h4
  cases hq : decide ((0 : Int) < (acc.length : Int))
  all_goals
   refine zk Tryz.func40 rfl rfl ?_
   simp (disch := ((try simp only [LL]); omega)) only [↓GO, ↓DRW, GA, GX, ren, zn, za, refs, z8, cst, zr, isC, bin, una, z7, zd, blt, asArg, zg, zc, zf, z6, E.mkS, unN, ze, zq, zb, GS, simprocAttr, GZ, hq, h4, z1.zj, zF]
 have hw := hf
 rcases hf with rfl | rfl | rfl | rfl | rfl
 · have L := h0 hw rfl
   simp only [Int.reduceBEq, Bool.false_and, Bool.false_or, Bool.or_false]
   apply zu
   refine zw rfl Tryz.func40 rfl (by kernel_rfl) ?_
   unfold Tryz.f40
   simp (disch := ((try simp only [LL]); omega)) only [↓GO, ↓DRW, GA, GX, ren, zn, za, refs, z8, cst, zr, isC, bin, una, z7, zd, blt, asArg, zg, zc, zf, z6, E.mkS, unN, ze, zq, zb, GS, simprocAttr, GZ, L, zF]
 · have L := h0 hw rfl
   simp only [Int.reduceBEq, Bool.false_and, Bool.false_or, Bool.or_false]
   apply zu
   refine zw rfl Tryz.func40 rfl (by kernel_rfl) ?_
   unfold Tryz.f40
   simp (disch := ((try simp only [LL]); omega)) only [↓GO, ↓DRW, GA, GX, ren, zn, za, refs, z8, cst, zr, isC, bin, una, z7, zd, blt, asArg, zg, zc, zf, z6, E.mkS, unN, ze, zq, zb, GS, simprocAttr, GZ, L, zF]
 · have L := h0 hw rfl
   simp only [Int.reduceBEq, Bool.false_and, Bool.true_and, Bool.false_or, Bool.or_false]
   cases q1 : (name == [114, 111, 111, 116])
   all_goals
    apply zu
    refine zw rfl Tryz.func40 rfl (by kernel_rfl) ?_
    unfold Tryz.f40
    simp (disch := ((try simp only [LL]); omega)) only [↓GO, ↓DRW, GA, GX, ren, zn, za, refs, z8, cst, zr, isC, bin, una, z7, zd, blt, asArg, zg, zc, zf, z6, E.mkS, unN, ze, zq, zb, GS, simprocAttr, GZ, L, q1, zF]
 · have L := h0 hw rfl
   simp only [Int.reduceBEq, Bool.false_and, Bool.true_and, Bool.false_or, Bool.or_false]
   apply zu
   refine zw rfl Tryz.func40 rfl (by kernel_rfl) ?_
   unfold Tryz.f40
   simp (disch := ((try simp only [LL]); omega)) only [↓GO, ↓DRW, GA, GX, ren, zn, za, refs, z8, cst, zr, isC, bin, una, z7, zd, blt, asArg, zg, zc, zf, z6, E.mkS, unN, ze, zq, zb, GS, simprocAttr, GZ, L, he, zF]
 · simp only [Int.reduceBEq, Bool.false_and, Bool.true_and, Bool.false_or, Bool.or_false]
   cases an with
   | true =>
    rw [cond_true] at L4
    apply zu
    refine zw rfl Tryz.func40 rfl (by kernel_rfl) ?_
    unfold Tryz.f40
    simp (disch := ((try simp only [LL]); omega)) only [↓GO, ↓DRW, GA, GX, ren, zn, za, refs, z8, cst, zr, isC, bin, una, z7, zd, blt, asArg, zg, zc, zf, z6, E.mkS, unN, ze, zq, zb, GS, simprocAttr, GZ, L4, zF]
   | false =>
    rw [cond_false] at L4
    apply zu
    refine zw rfl Tryz.func40 rfl (by kernel_rfl) ?_
    unfold Tryz.f40
    simp (disch := ((try simp only [LL]); omega)) only [↓GO, ↓DRW, GA, GX, ren, zn, za, refs, z8, cst, zr, isC, bin, una, z7, zd, blt, asArg, zg, zc, zf, z6, E.mkS, unN, ze, zq, zb, GS, simprocAttr, GZ, L4, zF]
end Go.Proofs.YtonbkdklidfmfaaGreatDoor
/- Project, the law's own way. Conditions: those of each lemma. -/
namespace Go.Proofs.YtonbkdklidfmfaaGreatDoor
open E
set_option linter.unusedSimpArgs false
set_option linter.unusedVariables false
set_option maxRecDepth 100000
def yz (l : List z1) : List Str := l.map keyOf
theorem rz (l : List z1) : (yz l).length = l.length := by simp [yz]
theorem cD (l : List z1) (p : z1) : strs (yz (l ++ [p])) = strs (yz l) ++ [[.str (keyOf p)]] := by simp [yz, strs]
theorem qx (q : zy → Bool) : ∀ l : List zy, (l.filter q).length ≤ l.length ∧ zy.zK (l.filter q) ≤ zy.zK l
 | [] => ⟨Nat.le_refl _, Nat.le_refl _⟩
 | x :: r => by
  have ih := qx q r
  rw [List.filter_cons]
  cases q x with
  | true => simp only [if_true, List.length_cons, zy.zK]; omega
  | false => simp only [Bool.false_eq_true, if_false, List.length_cons, zy.zK]; omega
theorem tQ (f : Int) (p : z1) : (zU f p).zV ≤ p.zV := by
 have h := qx (xm f) p.sums
 unfold zU
 cases (f == 3 || f == 4) <;> simp only [cond_true, cond_false, z1.zV, List.length_nil, yb] <;> omega
theorem sF (f : Int) : ∀ r acc : List z1, z1.zK (xr f acc r) ≤ z1.zK acc + z1.zK r
 | [], acc => by rw [xr]; simp [z1.zK]
 | p :: r, acc => by
  have hp := tQ f p
  rw [xr]
  cases vz f acc (zU f p) with
  | true => have := sF f r acc; rw [cond_true]; simp only [z1.zK]; omega
  | false =>
   have h1 := sF f r (acc ++ [zU f p])
   have h2 : ∀ a : List z1, z1.zK (a ++ [zU f p]) = z1.zK a + (zU f p).zV := by
    intro a
    induction a with
    | nil => simp [z1.zK]
    | cons x t ih => simp only [List.cons_append, z1.zK, ih]; omega
   rw [h2] at h1
   rw [cond_false]; simp only [z1.zK]; omega
set_option maxHeartbeats 1000000 in
theorem To (f : Int) (hf : u9 f) (gt : T) (cs : List z1) (hl : cs.length ≤ 1048576) (hb : ∀ c ∈ cs, c.zV ≤ 1048576) : ∀ (rest pre acc : List z1) (m : Nat) (cap : Option Nat), cs = pre ++ rest → m = acc.length → acc ≠ [] → m + rest.length ≤ 1048576 → ∃ cap',
 EV Tryz.prog pol (.loop 8 506 0 [.t (.int .i64 f), .ptr 0 0 0, .ptr 1 0 0, .ptr 2 0 0, .sl 3 0 m cap, .t (.int .i64 (pre.length : Int))] [.vs 2 [[.t gt, .t (.list 6 (z1.zi cs))]], .vs 2 [zG], .vs 2 [[.nil 1, .sl 4 0 m none]], .ts 1 (strs (yz acc)), .ts 6 (z1.zi acc)])
  = some (.loop (.exit 0) [.t (.int .i64 f), .ptr 0 0 0, .ptr 1 0 0, .ptr 2 0 0, .sl 3 0 (xr f acc rest).length cap'] [.vs 2 [[.t gt, .t (.list 6 (z1.zi cs))]], .vs 2 [zG], .vs 2 [[.nil 1, .sl 4 0 (xr f acc rest).length none]], .ts 1 (strs (yz (xr f acc rest))), .ts 6 (z1.zi (xr f acc rest))])
 | [], pre, acc, m, cap, h, hm, hn, hmM => by
  have c : decide ((pre.length : Int) < (cs.length : Int)) = false := by simp [h]
  refine ⟨cap, ?_⟩
  rw [xr, ← hm]
  simp only [zG]
  refine zk Tryz.func8 rfl rfl ?_
  simp (disch := ((try simp only [LL]); omega)) only [↓GO, ↓DRW, GA, GX, ren, zn, za, refs, z8, cst, zr, isC, bin, una, z7, zd, blt, asArg, zg, zc, zf, z6, E.mkS, unN, ze, zq, zb, GS, simprocAttr, GZ, c, z1.zj, zF]
 | x :: rest, pre, acc, m, cap, h, hm, hn, hmM => by
  have c : decide ((pre.length : Int) < (cs.length : Int)) = true := by simp [h]; omega
  have c0 : decide ((0 : Int) ≤ (pre.length : Int)) = true := by simp
  have hget : (z1.zi cs)[pre.length]? = some x.enc := by rw [h]; simp [z1.zi]
  have hlen : pre.length + rest.length + 1 ≤ cs.length := by rw [h]; simp; omega
  have hsl : (z1.zi acc).length = m := by rw [z1.zj, hm]
  have hkl : (strs (yz acc)).length = m := by rw [zh, rz, hm]
  have htk : (z1.zi acc).take m = z1.zi acc := List.take_of_length_le (by omega)
  simp only [List.length_cons] at hmM
  have hxb := hb x (by rw [h]; simp)
  have hpb := tQ f x
  have d1 := RM f hf x hxb
  have d2 := RQ f hf acc (by omega) (zU f x)
  have d3 := qO (zU f x) (by omega)
  rw [xr]
  cases q : vz f acc (zU f x) with
  | true =>
   rw [q] at d2
   obtain ⟨cap', IH⟩ := To f hf gt cs hl hb rest (pre ++ [x]) acc m cap (by rw [h]; simp) hm hn (by omega)
   rw [show ((pre ++ [x]).length : Int) = (pre.length : Int) + 1 by simp] at IH
   refine ⟨cap', ?_⟩
   simp only [cond_true, zG] at IH ⊢
   generalize xr f acc rest = Z at *
   generalize zU f x = y at *
   clear h hb hf q
   obtain ⟨name, version, source, sums, dev, zz⟩ := x
   obtain ⟨name', version', source', sums', dev', needs'⟩ := y
   simp only [z1.enc, List.map_cons, List.map_nil] at d1 d2 d3 hget ⊢
   refine zk Tryz.func8 rfl rfl ?_
   simp (disch := ((try simp only [LL]); omega)) only [↓GO, ↓DRW, GA, GX, ren, zn, za, refs, z8, cst, zr, isC, bin, una, z7, zd, blt, asArg, zg, zc, zf, z6, E.mkS, unN, ze, zq, zb, GS, simprocAttr, GZ, c, c0, z1.zj, hget, d1, d2, d3, htk, zo, hsl, hkl, zF, IH, yY]
  | false =>
   rw [q] at d2
   obtain ⟨cap', IH⟩ := To f hf gt cs hl hb rest (pre ++ [x]) (acc ++ [zU f x]) (m + 1) none (by rw [h]; simp) (by simp [hm]) (by simp) (by omega)
   rw [show ((pre ++ [x]).length : Int) = (pre.length : Int) + 1 by simp, uj, cD] at IH
   refine ⟨cap', ?_⟩
   simp only [cond_false, zG] at IH ⊢
   generalize xr f (acc ++ [zU f x]) rest = Z at *
   generalize zU f x = y at *
   clear h hb hf q
   obtain ⟨name, version, source, sums, dev, zz⟩ := x
   obtain ⟨name', version', source', sums', dev', needs'⟩ := y
   simp only [z1.enc, List.map_cons, List.map_nil] at d1 d2 d3 hget IH ⊢
   refine zk Tryz.func8 rfl rfl ?_
   simp (disch := ((try simp only [LL]); omega)) only [↓GO, ↓DRW, GA, GX, ren, zn, za, refs, z8, cst, zr, isC, bin, una, z7, zd, blt, asArg, zg, zc, zf, z6, E.mkS, unN, ze, zq, zb, GS, simprocAttr, GZ, c, c0, z1.zj, hget, d1, d2, d3, htk, zo, hsl, hkl, zF, IH, yY]
set_option maxHeartbeats 1000000 in
theorem T0 (f : Int) (hf : u9 f) (gt : T) (cs : List z1) (hl : cs.length ≤ 1048576) (hb : ∀ c ∈ cs, c.zV ≤ 1048576) : ∀ (rest pre : List z1) (cap : Option Nat), cs = pre ++ rest →
 (xr f [] rest = [] ∧ ∃ cap', EV Tryz.prog pol (.loop 8 506 0 [.t (.int .i64 f), .ptr 0 0 0, .ptr 1 0 0, .ptr 2 0 0, .sl 3 0 0 cap, .t (.int .i64 (pre.length : Int))] [.vs 2 [[.t gt, .t (.list 6 (z1.zi cs))]], .vs 2 [zG], .vs 2 [[.nil 1, .nil 6]], .ts 1 []])
  = some (.loop (.exit 0) [.t (.int .i64 f), .ptr 0 0 0, .ptr 1 0 0, .ptr 2 0 0, .sl 3 0 0 cap'] [.vs 2 [[.t gt, .t (.list 6 (z1.zi cs))]], .vs 2 [zG], .vs 2 [[.nil 1, .nil 6]], .ts 1 []])) ∨
 ∃ cap', EV Tryz.prog pol (.loop 8 506 0 [.t (.int .i64 f), .ptr 0 0 0, .ptr 1 0 0, .ptr 2 0 0, .sl 3 0 0 cap, .t (.int .i64 (pre.length : Int))] [.vs 2 [[.t gt, .t (.list 6 (z1.zi cs))]], .vs 2 [zG], .vs 2 [[.nil 1, .nil 6]], .ts 1 []])
  = some (.loop (.exit 0) [.t (.int .i64 f), .ptr 0 0 0, .ptr 1 0 0, .ptr 2 0 0, .sl 3 0 (xr f [] rest).length cap'] [.vs 2 [[.t gt, .t (.list 6 (z1.zi cs))]], .vs 2 [zG], .vs 2 [[.nil 1, .sl 4 0 (xr f [] rest).length none]], .ts 1 (strs (yz (xr f [] rest))), .ts 6 (z1.zi (xr f [] rest))])
 | [], pre, cap, h => by
  have c : decide ((pre.length : Int) < (cs.length : Int)) = false := by simp [h]
  refine .inl ⟨rfl, cap, ?_⟩
  simp only [zG]
  refine zk Tryz.func8 rfl rfl ?_
  simp (disch := ((try simp only [LL]); omega)) only [↓GO, ↓DRW, GA, GX, ren, zn, za, refs, z8, cst, zr, isC, bin, una, z7, zd, blt, asArg, zg, zc, zf, z6, E.mkS, unN, ze, zq, zb, GS, simprocAttr, GZ, c, z1.zj, zF]
 | x :: rest, pre, cap, h => by
  have c : decide ((pre.length : Int) < (cs.length : Int)) = true := by simp [h]; omega
  have c0 : decide ((0 : Int) ≤ (pre.length : Int)) = true := by simp
  have hget : (z1.zi cs)[pre.length]? = some x.enc := by rw [h]; simp [z1.zi]
  have hlen : pre.length + rest.length + 1 ≤ cs.length := by rw [h]; simp; omega
  have hxb := hb x (by rw [h]; simp)
  have hpb := tQ f x
  have d1 := RM f hf x hxb
  have d2 := RQ f hf [] (by simp) (zU f x)
  have d3 := qO (zU f x) (by omega)
  rw [xr]
  cases q : vz f [] (zU f x) with
  | true =>
   rw [q] at d2
   have IH := T0 f hf gt cs hl hb rest (pre ++ [x]) cap (by rw [h]; simp)
   rw [show ((pre ++ [x]).length : Int) = (pre.length : Int) + 1 by simp] at IH
   rw [cond_true]
   simp only [show z1.zi [] = [] from rfl] at d2
   generalize xr f [] rest = Z at *
   generalize zU f x = y at *
   have hpre : pre.length ≤ 1048576 := by omega
   clear h hb hf q
   obtain ⟨name, version, source, sums, dev, zz⟩ := x
   obtain ⟨name', version', source', sums', dev', needs'⟩ := y
   simp only [z1.enc, List.map_cons, List.map_nil, zG] at d1 d2 d3 hget IH ⊢
   rcases IH with ⟨e, cap', IH⟩ | ⟨cap', IH⟩
   · refine .inl ⟨e, cap', ?_⟩
     refine zk Tryz.func8 rfl rfl ?_
     simp (disch := ((try simp only [LL]); omega)) only [↓GO, ↓DRW, GA, GX, ren, zn, za, refs, z8, cst, zr, isC, bin, una, z7, zd, blt, asArg, zg, zc, zf, z6, E.mkS, unN, ze, zq, zb, GS, simprocAttr, GZ, c, c0, z1.zj, hget, d1, d2, d3, zo, zF, IH, yY]
   · refine .inr ⟨cap', ?_⟩
     refine zk Tryz.func8 rfl rfl ?_
     simp (disch := ((try simp only [LL]); omega)) only [↓GO, ↓DRW, GA, GX, ren, zn, za, refs, z8, cst, zr, isC, bin, una, z7, zd, blt, asArg, zg, zc, zf, z6, E.mkS, unN, ze, zq, zb, GS, simprocAttr, GZ, c, c0, z1.zj, hget, d1, d2, d3, zo, zF, IH, yY]
  | false =>
   rw [q] at d2
   obtain ⟨cap', IH⟩ := To f hf gt cs hl hb rest (pre ++ [x]) [zU f x] 1 none (by rw [h]; simp) rfl (by simp) (by omega)
   rw [show ((pre ++ [x]).length : Int) = (pre.length : Int) + 1 by simp, show z1.zi [zU f x] = [(zU f x).enc] from rfl, show strs (yz [zU f x]) = [[.str (keyOf (zU f x))]] from rfl] at IH
   refine .inr ⟨cap', ?_⟩
   simp only [cond_false, zG, List.nil_append, show z1.zi [] = [] from rfl] at d2 IH ⊢
   generalize xr f [zU f x] rest = Z at *
   generalize zU f x = y at *
   clear h hb hf q
   obtain ⟨name, version, source, sums, dev, zz⟩ := x
   obtain ⟨name', version', source', sums', dev', needs'⟩ := y
   simp only [z1.enc, List.map_cons, List.map_nil] at d1 d2 d3 hget IH ⊢
   refine zk Tryz.func8 rfl rfl ?_
   simp (disch := ((try simp only [LL]); omega)) only [↓GO, ↓DRW, GA, GX, ren, zn, za, refs, z8, cst, zr, isC, bin, una, z7, zd, blt, asArg, zg, zc, zf, z6, E.mkS, unN, ze, zq, zb, GS, simprocAttr, GZ, c, c0, z1.zj, hget, d1, d2, d3, zo, zF, IH, yY, List.length_nil]
def vi (f : Int) : Bool := decide (0 ≤ f) && decide (f ≤ 4)
theorem pz {f : Int} (h : vi f = true) : u9 f := by
 unfold vi at h
 simp only [Bool.and_eq_true, decide_eq_true_eq] at h
 unfold u9
 omega
theorem uo {α : Type} (a b c d e : α) : uX [a, b, c, d, e] 3 = some d := rfl
theorem td {α : Type} (a b c d e : α) : uX [a, b, c, d, e] 4 = some e := rfl
theorem Qw : zm (EV Tryz.prog pol) 91 [] = some (.t (.list 1 [[.str [110, 111, 100, 101]], [.str [121, 97, 114, 110]], [.str [99, 97, 114, 103, 111]], [.str [103, 111]], [.str [112, 105, 112]]])) := by
 apply zu
 refine zw rfl Tryz.func91 rfl (by kernel_rfl) ?_
 unfold Tryz.f91
 simp (disch := ((try simp only [LL]); omega)) only [↓GO, ↓DRW, GA, GX, ren, zn, za, refs, z8, cst, zr, isC, bin, una, z7, zd, blt, asArg, zg, zc, zf, z6, E.mkS, unN, ze, zq, zb, GS, simprocAttr, GZ, zF]
theorem RR (f : Int) : ∃ s, zm (EV Tryz.prog pol) 37 [.t (.int .i64 f)] = some (.t (.str s)) ∧ (s == []) = !vi f := by
 have d1 := wy f 0 4
 have d2 := Qw
 have e : B2 f 0 4 = vi f := by unfold vi B2; rfl
 rw [e] at d1
 cases q : vi f with
 | false =>
  rw [q] at d1
  refine ⟨[], ?_, rfl⟩
  apply zu
  refine zw rfl Tryz.func37 rfl (by kernel_rfl) ?_
  unfold Tryz.f37
  simp (disch := ((try simp only [LL]); omega)) only [↓GO, ↓DRW, GA, GX, ren, zn, za, refs, z8, cst, zr, isC, bin, una, z7, zd, blt, asArg, zg, zc, zf, z6, E.mkS, unN, ze, zq, zb, GS, simprocAttr, GZ, d1, zF]
 | true =>
  rw [q] at d1
  rcases pz q with rfl | rfl | rfl | rfl | rfl
  · refine ⟨[110, 111, 100, 101], ?_, rfl⟩
    apply zu
    refine zw rfl Tryz.func37 rfl (by kernel_rfl) ?_
    unfold Tryz.f37
    simp (disch := ((try simp only [LL]); omega)) only [↓GO, ↓DRW, GA, GX, ren, zn, za, refs, z8, cst, zr, isC, bin, una, z7, zd, blt, asArg, zg, zc, zf, z6, E.mkS, unN, ze, zq, zb, GS, simprocAttr, GZ, d1, d2, uo, td, zF]
  · refine ⟨[121, 97, 114, 110], ?_, rfl⟩
    apply zu
    refine zw rfl Tryz.func37 rfl (by kernel_rfl) ?_
    unfold Tryz.f37
    simp (disch := ((try simp only [LL]); omega)) only [↓GO, ↓DRW, GA, GX, ren, zn, za, refs, z8, cst, zr, isC, bin, una, z7, zd, blt, asArg, zg, zc, zf, z6, E.mkS, unN, ze, zq, zb, GS, simprocAttr, GZ, d1, d2, uo, td, zF]
  · refine ⟨[99, 97, 114, 103, 111], ?_, rfl⟩
    apply zu
    refine zw rfl Tryz.func37 rfl (by kernel_rfl) ?_
    unfold Tryz.f37
    simp (disch := ((try simp only [LL]); omega)) only [↓GO, ↓DRW, GA, GX, ren, zn, za, refs, z8, cst, zr, isC, bin, una, z7, zd, blt, asArg, zg, zc, zf, z6, E.mkS, unN, ze, zq, zb, GS, simprocAttr, GZ, d1, d2, uo, td, zF]
  · refine ⟨[103, 111], ?_, rfl⟩
    apply zu
    refine zw rfl Tryz.func37 rfl (by kernel_rfl) ?_
    unfold Tryz.f37
    simp (disch := ((try simp only [LL]); omega)) only [↓GO, ↓DRW, GA, GX, ren, zn, za, refs, z8, cst, zr, isC, bin, una, z7, zd, blt, asArg, zg, zc, zf, z6, E.mkS, unN, ze, zq, zb, GS, simprocAttr, GZ, d1, d2, uo, td, zF]
  · refine ⟨[112, 105, 112], ?_, rfl⟩
    apply zu
    refine zw rfl Tryz.func37 rfl (by kernel_rfl) ?_
    unfold Tryz.f37
    simp (disch := ((try simp only [LL]); omega)) only [↓GO, ↓DRW, GA, GX, ren, zn, za, refs, z8, cst, zr, isC, bin, una, z7, zd, blt, asArg, zg, zc, zf, z6, E.mkS, unN, ze, zq, zb, GS, simprocAttr, GZ, d1, d2, uo, td, zF]
def wA (f : Int) (g : zx) : zx := cond (f == 0) (uw g) g
def x6 (f : Int) (g : zx) : List z1 := xr f [] (wA f g).packs
def rO (f : Int) (g : zx) : zx := ⟨cond (f == 0 || f == 2) (wA f g).top [], x6 f g⟩
theorem nc (keys : List Str) : ∀ cs : List z1, (xg keys cs).length ≤ cs.length ∧ z1.zK (xg keys cs) ≤ z1.zK cs
 | [] => ⟨Nat.le_refl _, Nat.le_refl _⟩
 | p :: r => by
  have ih := nc keys r
  unfold xg at ih ⊢
  rw [List.filter_cons]
  cases yi keys (keyOf p) with
  | true => simp only [if_true, List.length_cons, z1.zK]; omega
  | false => simp only [Bool.false_eq_true, if_false, List.length_cons, z1.zK]; omega
theorem ZQ (f : Int) (g : zx) (hB : GB g) : GB (wA f g) := by
 have hk := nc (yc g.packs g.top) g.packs
 unfold GB zx.zV at hB ⊢
 unfold wA uw
 cases (f == 0) with
 | false => exact hB
 | true =>
  rw [cond_true]
  cases y6 g with
  | false => exact hB
  | true => rw [cond_true]; simp only; omega
theorem TU (f : Int) (g : zx) (hB : GB g) : GB (rO f g) := by
 have h := ZQ f g hB
 have h1 := rq f (wA f g).packs []
 have h2 := sF f (wA f g).packs []
 unfold GB zx.zV at h ⊢
 unfold rO x6
 simp only [z1.zK, List.length_nil] at h1 h2
 cases (f == 0 || f == 2) with
 | false => simp only [cond_false, List.length_nil, yb]; omega
 | true => simp only [cond_true]; omega
theorem Vh (f : Int) (g : zx) (hB : GB g) (h : (vi f && y6 g) = false) : zm (EV Tryz.prog pol) 8 [.t (.int .i64 f), .agg (g.enc.map .t)] = some (.agg (g.enc.map .t)) := by
 obtain ⟨s, d1, e1⟩ := RR f
 have d2 := oG g hB
 have d3 := ZO g hB
 obtain ⟨top, packs⟩ := g
 simp only [zx.enc, List.map_cons, List.map_nil] at d2 d3 ⊢
 cases q : vi f with
 | false =>
  rw [q] at e1
  apply zu
  refine zw rfl Tryz.func8 rfl (by kernel_rfl) ?_
  unfold Tryz.f8
  simp (disch := ((try simp only [LL]); omega)) only [↓GO, ↓DRW, GA, GX, ren, zn, za, refs, z8, cst, zr, isC, bin, una, z7, zd, blt, asArg, zg, zc, zf, z6, E.mkS, unN, ze, zq, zb, GS, simprocAttr, GZ, d1, e1, d3, Bool.not_false, zF]
 | true =>
  rw [q] at e1 h
  rw [Bool.true_and] at h
  rw [h] at d2
  apply zu
  refine zw rfl Tryz.func8 rfl (by kernel_rfl) ?_
  unfold Tryz.f8
  simp (disch := ((try simp only [LL]); omega)) only [↓GO, ↓DRW, GA, GX, ren, zn, za, refs, z8, cst, zr, isC, bin, una, z7, zd, blt, asArg, zg, zc, zf, z6, E.mkS, unN, ze, zq, zb, GS, simprocAttr, GZ, d1, e1, d2, d3, Bool.not_true, zF]
set_option maxHeartbeats 2000000 in
theorem c_pjR (f : Int) (hf : vi f = true) (g : zx) (hB : GB g) (hg : y6 g = true) :
 zm (EV Tryz.prog pol) 8 [.t (.int .i64 f), .agg (g.enc.map .t)] = some (.agg ((uC (rO f g) (yz (x6 f g))).enc.map .t)) := by
 obtain ⟨s, d1, e1⟩ := RR f
 rw [hf] at e1
 have d2 := oG g hB
 rw [hg] at d2
 have d3 := c_prR g hB
 have hf' := pz hf
 have hb := (ZQ f g hB).len
 have hpl := rq f (wA f g).packs []
 have d4 := RP (rO f g) (TU f g hB) (yz (x6 f g)) (by rw [rz]; unfold x6; simp only [List.length_nil] at hpl; omega)
 have L := T0 f hf' (.list 1 (strs (wA f g).top)) (wA f g).packs (by omega) hb.2.2 (wA f g).packs [] (some 0) rfl
 rw [show xr f [] (wA f g).packs = x6 f g from rfl] at L
 have hbt : (wA f g).top.length ≤ 1048576 := by omega
 have ht1 : (strs (wA f g).top).take (wA f g).top.length = strs (wA f g).top := by rw [← zh (wA f g).top]; simp
 have ht2 : (z1.zi (x6 f g)).take (x6 f g).length = z1.zi (x6 f g) := by rw [← z1.zj (x6 f g)]; simp
 have ht3 : (strs (yz (x6 f g))).take (x6 f g).length = strs (yz (x6 f g)) := by rw [← rz (x6 f g), ← zh (yz (x6 f g))]; simp
 have e0 : (f == 0) = true → wA f g = uw g := fun h => by unfold wA; rw [h]; rfl
 have e2 : (f == 0) = false → wA f g = g := fun h => by unfold wA; rw [h]; rfl
 unfold rO at d4 ⊢
 simp only [List.length_nil, Int.natCast_zero, zG] at L
 rw [Bool.not_true] at e1
 clear hb hpl ht2 ht3
 have hKs := z1.zj (x6 f g)
 have hKk := rz (x6 f g)
 generalize x6 f g = K at *
 have ht2 : (z1.zi K).take K.length = z1.zi K := List.take_of_length_le (by omega)
 have ht3 : (strs (yz K)).take K.length = strs (yz K) := List.take_of_length_le (by rw [zh]; omega)
 generalize wA f g = bg at *
 have hgg : (f == 0) = true → zm (EV Tryz.prog pol) 29 [.agg (g.enc.map .t)] = some (.agg (bg.enc.map .t)) := fun h => by rw [e0 h]; exact d3
 clear d3 e0
 rcases hf' with rfl | rfl | rfl | rfl | rfl
 all_goals
  simp only [Int.reduceBEq, Bool.true_or, Bool.or_true, Bool.false_or, Bool.or_false, cond_true, cond_false, true_implies, Bool.false_eq_true, false_implies] at d4 hgg e2 ⊢
 · generalize uC ⟨bg.top, K⟩ (yz K) = R at *
   obtain ⟨top, packs⟩ := g
   obtain ⟨bt, bp⟩ := bg
   obtain ⟨rt, rp⟩ := R
   simp only [zx.enc, List.map_cons, List.map_nil] at d2 hgg d4 L ht1 hbt ⊢
   rcases L with ⟨eK, cap', L⟩ | ⟨cap', L⟩
   · subst eK
     simp only [show z1.zi [] = [] from rfl, show strs (yz []) = [] from rfl] at d4
     apply zu
     refine zw rfl Tryz.func8 rfl (by kernel_rfl) ?_
     unfold Tryz.f8
     simp (disch := ((try simp only [LL]); omega)) only [↓GO, ↓DRW, GA, GX, ren, zn, za, refs, z8, cst, zr, isC, bin, una, z7, zd, blt, asArg, zg, zc, zf, z6, E.mkS, unN, ze, zq, zb, GS, simprocAttr, GZ, d1, e1, d2, hgg, L, d4, ht1, zh, yY, zF]
   · apply zu
     refine zw rfl Tryz.func8 rfl (by kernel_rfl) ?_
     unfold Tryz.f8
     simp (disch := ((try simp only [LL]); omega)) only [↓GO, ↓DRW, GA, GX, ren, zn, za, refs, z8, cst, zr, isC, bin, una, z7, zd, blt, asArg, zg, zc, zf, z6, E.mkS, unN, ze, zq, zb, GS, simprocAttr, GZ, d1, e1, d2, hgg, L, d4, ht1, ht2, ht3, zh, yY, zF]
 · subst e2
   generalize uC ⟨[], K⟩ (yz K) = R at *
   obtain ⟨bt, bp⟩ := bg
   obtain ⟨rt, rp⟩ := R
   simp only [zx.enc, List.map_cons, List.map_nil, show strs [] = [] from rfl] at d2 d4 L ht1 hbt ⊢
   rcases L with ⟨eK, cap', L⟩ | ⟨cap', L⟩
   · subst eK
     simp only [show z1.zi [] = [] from rfl, show strs (yz []) = [] from rfl] at d4
     apply zu
     refine zw rfl Tryz.func8 rfl (by kernel_rfl) ?_
     unfold Tryz.f8
     simp (disch := ((try simp only [LL]); omega)) only [↓GO, ↓DRW, GA, GX, ren, zn, za, refs, z8, cst, zr, isC, bin, una, z7, zd, blt, asArg, zg, zc, zf, z6, E.mkS, unN, ze, zq, zb, GS, simprocAttr, GZ, d1, e1, d2, L, d4, ht1, zh, yY, zF]
   · apply zu
     refine zw rfl Tryz.func8 rfl (by kernel_rfl) ?_
     unfold Tryz.f8
     simp (disch := ((try simp only [LL]); omega)) only [↓GO, ↓DRW, GA, GX, ren, zn, za, refs, z8, cst, zr, isC, bin, una, z7, zd, blt, asArg, zg, zc, zf, z6, E.mkS, unN, ze, zq, zb, GS, simprocAttr, GZ, d1, e1, d2, L, d4, ht1, ht2, ht3, zh, yY, zF]
 · subst e2
   generalize uC ⟨bg.top, K⟩ (yz K) = R at *
   obtain ⟨bt, bp⟩ := bg
   obtain ⟨rt, rp⟩ := R
   simp only [zx.enc, List.map_cons, List.map_nil, show strs [] = [] from rfl] at d2 d4 L ht1 hbt ⊢
   rcases L with ⟨eK, cap', L⟩ | ⟨cap', L⟩
   · subst eK
     simp only [show z1.zi [] = [] from rfl, show strs (yz []) = [] from rfl] at d4
     apply zu
     refine zw rfl Tryz.func8 rfl (by kernel_rfl) ?_
     unfold Tryz.f8
     simp (disch := ((try simp only [LL]); omega)) only [↓GO, ↓DRW, GA, GX, ren, zn, za, refs, z8, cst, zr, isC, bin, una, z7, zd, blt, asArg, zg, zc, zf, z6, E.mkS, unN, ze, zq, zb, GS, simprocAttr, GZ, d1, e1, d2, L, d4, ht1, zh, yY, zF]
   · apply zu
     refine zw rfl Tryz.func8 rfl (by kernel_rfl) ?_
     unfold Tryz.f8
     simp (disch := ((try simp only [LL]); omega)) only [↓GO, ↓DRW, GA, GX, ren, zn, za, refs, z8, cst, zr, isC, bin, una, z7, zd, blt, asArg, zg, zc, zf, z6, E.mkS, unN, ze, zq, zb, GS, simprocAttr, GZ, d1, e1, d2, L, d4, ht1, ht2, ht3, zh, yY, zF]
 all_goals
  subst e2
  generalize uC ⟨[], K⟩ (yz K) = R at *
  obtain ⟨bt, bp⟩ := bg
  obtain ⟨rt, rp⟩ := R
  simp only [zx.enc, List.map_cons, List.map_nil, show strs [] = [] from rfl] at d2 d4 L ht1 hbt ⊢
  rcases L with ⟨eK, cap', L⟩ | ⟨cap', L⟩
  · subst eK
    simp only [show z1.zi [] = [] from rfl, show strs (yz []) = [] from rfl] at d4
    apply zu
    refine zw rfl Tryz.func8 rfl (by kernel_rfl) ?_
    unfold Tryz.f8
    simp (disch := ((try simp only [LL]); omega)) only [↓GO, ↓DRW, GA, GX, ren, zn, za, refs, z8, cst, zr, isC, bin, una, z7, zd, blt, asArg, zg, zc, zf, z6, E.mkS, unN, ze, zq, zb, GS, simprocAttr, GZ, d1, e1, d2, L, d4, ht1, zh, yY, zF]
  · apply zu
    refine zw rfl Tryz.func8 rfl (by kernel_rfl) ?_
    unfold Tryz.f8
    simp (disch := ((try simp only [LL]); omega)) only [↓GO, ↓DRW, GA, GX, ren, zn, za, refs, z8, cst, zr, isC, bin, una, z7, zd, blt, asArg, zg, zc, zf, z6, E.mkS, unN, ze, zq, zb, GS, simprocAttr, GZ, d1, e1, d2, L, d4, ht1, ht2, ht3, zh, yY, zF]
end Go.Proofs.YtonbkdklidfmfaaGreatDoor
/- What a format keeps of a graph, plain: both ways come to the same. Conditions: none. -/
namespace Go.Proofs.YtonbkdklidfmfaaGreatDoor
open E
set_option linter.unusedVariables false
set_option linter.unusedSimpArgs false
set_option maxRecDepth 100000
def rootKey (k : Str) : Bool := (vH k).1 == xk
def xn (p : z1) : z1 := ⟨p.name, p.version, p.source, p.sums, p.dev, p.zz.filter fun k => !rootKey k⟩
def xl (a : Str) (p : z1) : Bool := p.sums.any fun s => s.alg == a
def wq : List z1 → List z1 → List z1
 | acc, [] => acc
 | acc, p :: r => cond (acc.any (xW p)) (wq acc r) (wq (acc ++ [p]) r)
def aF (f : Int) (g : zx) : List z1 :=
 cond (f == 0) (xg (yc g.packs g.top) g.packs) (cond (f == 2) ((g.packs.filter fun p => !(p.name == xk)).map xn) (cond (f == 3) (g.packs.filter (xl sH1)) (cond (f == 4) (wq [] g.packs) g.packs)))
def Re (f : Int) (g : zx) : List Str := cond (f == 0) g.top (cond (f == 2) (g.top.filter fun k => !rootKey k) [])
/-- the program's way -/
def vN (f : Int) (g : zx) : zx := ⟨Re f g, (aF f g).map (zU f)⟩
theorem od (f : Int) (l : List z1) : yz (l.map (zU f)) = yz l := by
 unfold yz
 rw [List.map_map]
 rfl
theorem tc (l : List z1) (k : Str) : k ∈ yz l ↔ ∃ p ∈ l, keyOf p = k := by simp [yz]
theorem oR (K : List z1) : xi (yz K) K = K.map (rP (yz K)) := by
 unfold xi
 rw [filter_all]
 intro x hx
 rw [wL, tc]
 exact ⟨x, hx, rfl⟩
theorem vl (f : Int) (hf : (f == 4) = false) : ∀ r acc : List z1, xr f acc r = acc ++ (r.map (zU f)).filter (fun p => !vz f [] p)
 | [], acc => by simp [xr]
 | p :: r, acc => by
  have e : vz f acc (zU f p) = vz f [] (zU f p) := by unfold vz; rw [hf]; simp
  rw [xr, e, List.map_cons, List.filter_cons]
  cases vz f [] (zU f p) with
  | true => rw [cond_true, vl f hf r acc]; simp
  | false => rw [cond_false, vl f hf r (acc ++ [zU f p])]; simp
theorem gone4 (acc : List z1) (p : z1) : vz 4 (acc.map (zU 4)) (zU 4 p) = acc.any (xW p) := by
 unfold vz
 have h : (acc.map (zU 4)).any (xW (zU 4 p)) = acc.any (xW p) := by
  rw [List.any_map]
  rfl
 rw [h]
 simp
theorem iI : ∀ r acc : List z1, xr 4 (acc.map (zU 4)) r = (wq acc r).map (zU 4)
 | [], acc => by rw [xr, wq]
 | p :: r, acc => by
  rw [xr, wq, gone4]
  cases acc.any (xW p) with
  | true => rw [cond_true, cond_true, iI r acc]
  | false =>
   rw [cond_false, cond_false, ← iI r (acc ++ [p])]
   simp
theorem mB {ps : List z1} {l : List Str} (h : xz ps none l = true) : ∀ k ∈ l, ∃ q ∈ ps, keyOf q = k := fun k hk => by
 have h1 := (tX ps none l h).2.1 k hk
 unfold gA at h1
 rw [List.any_eq_true] at h1
 obtain ⟨q, h2, h3⟩ := h1
 exact ⟨q, h2, by simpa using h3⟩
theorem topOk {g : zx} (h : y6 g = true) : xz g.packs none g.top = true := by
 unfold y6 at h
 simp only [Bool.and_eq_true] at h
 exact h.2.2
theorem YC {K : List z1} {p : z1} (h : ∀ k ∈ p.zz, k ∈ yz K) : rP (yz K) p = p := by
 have e : p.zz.filter (yi (yz K)) = p.zz := filter_all _ _ fun k hk => (wL _ _).2 (h k hk)
 unfold rP
 rw [e]
theorem pq {K : List z1} (h : ∀ p ∈ K, ∀ k ∈ p.zz, k ∈ yz K) : xi (yz K) K = K := by
 rw [oR]
 conv => rhs; rw [← List.map_id K]
 exact List.map_congr_left fun p hp => YC (h p hp)
theorem fR {g : zx} (hg : y6 g = true) {k : Str} (hk : ∃ q ∈ g.packs, keyOf q = k) : yi (yz (g.packs.filter fun p => !(p.name == xk))) k = !rootKey k := by
 obtain ⟨q, hq, rfl⟩ := hk
 have hr : rootKey (keyOf q) = (q.name == xk) := by
  unfold rootKey
  rw [gE (uJ hg q hq).1]
 rw [hr]
 cases hn : q.name == xk with
 | true =>
  cases hc : yi (yz (g.packs.filter fun p => !(p.name == xk))) (keyOf q) with
  | false => rfl
  | true =>
   rw [wL, tc] at hc
   obtain ⟨p, hp, e⟩ := hc
   obtain ⟨hp1, hp2⟩ := List.mem_filter.1 hp
   have := (wc hg).key p hp1 q hq e
   subst this
   rw [hn] at hp2
   cases hp2
 | false =>
  rw [Bool.not_false, wL, tc]
  exact ⟨q, List.mem_filter.2 ⟨hq, by rw [hn]; rfl⟩, rfl⟩
theorem jU (f : Int) (r : z1 → Bool) (hr : ∀ p, r (zU f p) = r p) (l : List z1) : (l.map (zU f)).filter r = (l.filter r).map (zU f) := by
 rw [List.filter_map]
 congr 1
 exact List.filter_congr fun x _ => hr x
theorem Qh (p : z1) : (zU 3 p).sums.isEmpty = !xl sH1 p := by
 show (p.sums.filter (xm 3)).isEmpty = _
 unfold xl
 generalize p.sums = l
 induction l with
 | nil => rfl
 | cons s r ih =>
  rw [List.filter_cons, List.any_cons]
  have h : xm 3 s = (s.alg == sH1) := rfl
  rw [h]
  cases s.alg == sH1 with
  | true => rfl
  | false => simpa using ih
theorem UT {f : Int} (hf : f = 3 ∨ f = 4) (l : List z1) : ∀ p ∈ l.map (zU f), ∀ k ∈ p.zz, k ∈ yz (l.map (zU f)) := fun p hp k hk => by
 obtain ⟨q, _, rfl⟩ := List.mem_map.1 hp
 rcases hf with rfl | rfl
 · simp [zU] at hk
 · simp [zU] at hk
theorem Yv (f : Int) (hf : u9 f) (g : zx) (hg : y6 g = true) : uC (rO f g) (yz (x6 f g)) = vN f g := by
 have hpk := uJ hg
 have htop := mB (topOk hg)
 have hneed : ∀ p ∈ g.packs, ∀ k ∈ p.zz, ∃ q ∈ g.packs, keyOf q = k := fun p hp => mB (hpk p hp).2
 rcases hf with rfl | rfl | rfl | rfl | rfl
 · have hb : wA 0 g = ⟨g.top, xg (yc g.packs g.top) g.packs⟩ := by
    show uw g = _
    unfold uw; rw [hg]; rfl
   have hK : x6 0 g = (xg (yc g.packs g.top) g.packs).map (zU 0) := by
    unfold x6
    rw [vl 0 rfl, hb, List.nil_append]
    exact filter_all _ _ fun x _ => rfl
   have hin : ∀ k, k ∈ yc g.packs g.top → (∃ q ∈ g.packs, keyOf q = k) → k ∈ yz (x6 0 g) := fun k h1 ⟨q, h2, h3⟩ => by
    rw [hK, od, tc]
    exact ⟨q, List.mem_filter.2 ⟨h2, by rw [wL, h3]; exact h1⟩, h3⟩
   have hfs : ∀ k, (∃ q ∈ g.packs, keyOf q = k) → (xN g.packs k).isSome = true := fun k ⟨q, h2, h3⟩ => by
    rw [← h3, tZ (wc hg) h2]; rfl
   unfold vN uC rO
   show zx.mk ((wA 0 g).top.filter _) (xi (yz (x6 0 g)) (x6 0 g)) = zx.mk g.top ((xg (yc g.packs g.top) g.packs).map (zU 0))
   congr 1
   · rw [hb]
     exact filter_all _ _ fun k hk => (wL _ _).2 (hin k (mh _ _ k hk (hfs k (htop k hk))) (htop k hk))
   · rw [← hK]
     refine pq fun p hp k hk => ?_
     rw [hK] at hp
     obtain ⟨q, hq, rfl⟩ := List.mem_map.1 hp
     obtain ⟨hq1, hq2⟩ := List.mem_filter.1 hq
     rw [wL] at hq2
     have hk' : k ∈ q.zz := hk
     have hx := hneed q hq1 k hk'
     exact hin k (q6 _ _ (keyOf q) q k hq2 (tZ (wc hg) hq1) hk' (hfs k hx)) hx
 · have hK : x6 1 g = g.packs.map (zU 1) := by
    unfold x6
    rw [vl 1 rfl, List.nil_append]
    exact filter_all _ _ fun x _ => rfl
   unfold vN uC rO
   show zx.mk (List.filter _ []) (xi (yz (x6 1 g)) (x6 1 g)) = zx.mk [] (g.packs.map (zU 1))
   congr 1
   rw [← hK]
   refine pq fun p hp k hk => ?_
   rw [hK] at hp ⊢
   obtain ⟨q, hq, rfl⟩ := List.mem_map.1 hp
   rw [od, tc]
   exact hneed q hq k hk
 · have hK : x6 2 g = (g.packs.filter fun p => !(p.name == xk)).map (zU 2) := by
    unfold x6
    rw [vl 2 rfl, List.nil_append]
    exact jU 2 (fun p => !vz 2 [] p) (fun _ => rfl) g.packs |>.trans (by
     congr 1
     refine List.filter_congr fun p _ => ?_
     simp [vz])
   unfold vN uC rO
   show zx.mk (g.top.filter (yi (yz (x6 2 g)))) (xi (yz (x6 2 g)) (x6 2 g)) = zx.mk (g.top.filter fun k => !rootKey k) (((g.packs.filter fun p => !(p.name == xk)).map xn).map (zU 2))
   have hkk : yz (x6 2 g) = yz (g.packs.filter fun p => !(p.name == xk)) := by rw [hK, od]
   rw [oR, hkk, hK]
   congr 1
   · exact List.filter_congr fun k hk => fR hg (htop k hk)
   · rw [List.map_map, List.map_map]
     refine List.map_congr_left fun p hp => ?_
     obtain ⟨hp1, _⟩ := List.mem_filter.1 hp
     have e : p.zz.filter (yi (yz (g.packs.filter fun p => !(p.name == xk)))) = p.zz.filter fun k => !rootKey k := List.filter_congr fun k hk => fR hg (hneed p hp1 k hk)
     show z1.mk _ _ _ _ _ (p.zz.filter _) = z1.mk _ _ _ _ _ _
     rw [e]
     rfl
 · have hK : x6 3 g = (g.packs.filter (xl sH1)).map (zU 3) := by
    unfold x6
    rw [vl 3 rfl, List.nil_append]
    rw [List.filter_map]
    congr 1
    refine List.filter_congr fun p _ => ?_
    show (!vz 3 [] (zU 3 p)) = _
    have h := Qh p
    unfold vz
    rw [h]
    simp
   unfold vN uC rO
   show zx.mk (List.filter _ []) (xi (yz (x6 3 g)) (x6 3 g)) = zx.mk [] ((g.packs.filter (xl sH1)).map (zU 3))
   congr 1
   rw [hK]
   exact pq (UT (.inl rfl) _)
 · have hK : x6 4 g = (wq [] g.packs).map (zU 4) := iI g.packs []
   unfold vN uC rO
   show zx.mk (List.filter _ []) (xi (yz (x6 4 g)) (x6 4 g)) = zx.mk [] ((wq [] g.packs).map (zU 4))
   congr 1
   rw [hK]
   exact pq (UT (.inr rfl) _)
end Go.Proofs.YtonbkdklidfmfaaGreatDoor
/- slices.DeleteFunc at texts and sums. Conditions: those of each lemma. -/
namespace Go.Proofs.YtonbkdklidfmfaaGreatDoor
open E
set_option linter.unusedSimpArgs false
set_option linter.unusedVariables false
set_option maxRecDepth 100000
theorem jn {α : Type} {p : α → Bool} {l : List α} {i : Nat} {pre post : List α} {x : α} (e1 : l = pre ++ x :: post) (e3 : p x = true) (e4 : ∀ y ∈ pre, p y = false) : (l.filter fun x => !p x) = pre ++ post.filter fun x => !p x := by
 rw [e1, List.filter_append, List.filter_cons, e3]
 simp only [Bool.not_true, Bool.false_eq_true, if_false]
 congr 1
 exact List.filter_eq_self.2 fun y hy => by rw [e4 y hy]; rfl
theorem sI {α : Type} (p : α → Bool) : ∀ (l : List α) (n i : Nat), xR p l n = some i → ∃ pre x post, l = pre ++ x :: post ∧ n + pre.length = i ∧ p x = true ∧ ∀ y ∈ pre, p y = false
 | [], n, i, h => by cases h
 | x :: r, n, i, h => by
  rw [xR] at h
  split at h
  · rename_i hx
    cases h
    exact ⟨[], x, r, rfl, rfl, hx, fun y hy => by simp at hy⟩
  · rename_i hx
    obtain ⟨pre, y, post, e1, e2, e3, e4⟩ := sI p r (n + 1) i h
    refine ⟨x :: pre, y, post, by rw [e1]; rfl, by simp; omega, e3, fun z hz => ?_⟩
    rcases List.mem_cons.1 hz with rfl | hz
    · simpa using hx
    · exact e4 z hz
theorem dk {α : Type} (p : α → Bool) (l : List α) (h : xR p l 0 = none) : l.filter (fun x => !p x) = l := by
 have h2 := tA p l 0
 rw [h] at h2
 refine List.filter_eq_self.2 fun x hx => ?_
 cases hc : p x with
 | false => rfl
 | true =>
  have : l.any p = true := List.any_eq_true.2 ⟨x, hx, hc⟩
  rw [this] at h2; cases h2
theorem qE : ∀ {ks : List Str} {s : Str}, s ∈ ks → s.length ≤ yb ks
 | k :: r, s, h => by
  rw [yb]
  rcases List.mem_cons.1 h with rfl | h
  · omega
  · have := qE h; omega
theorem qy (q : Str → Bool) : ∀ l : List Str, (l.filter q).length + yb (l.filter q) ≤ l.length + yb l
 | [] => Nat.le_refl _
 | x :: r => by
  have ih := qy q r
  have e : ∀ t : List Str, yb (x :: t) = x.length + yb t := fun _ => rfl
  cases h : q x with
  | true => rw [List.filter_cons_of_pos h, e, e, List.length_cons, List.length_cons]; omega
  | false => rw [List.filter_cons_of_neg (by rw [h]; decide), e, List.length_cons]; omega
theorem bO (g : Nat) (p : Str → Bool) (l : List Str) (hl : l.length ≤ 1048576) (hp : ∀ x ∈ l, zm (EV Tryz.prog pol) g (.t (.str x) :: []) = some (.t (.bool (p x)))) (cap : Option Nat) (n : Nat) (hn : n = l.length) : ∀ (R K J : List Str), (∀ x ∈ R, x ∈ l) → 1 ≤ J.length → K.length + J.length + R.length = l.length → ∃ J', (K ++ R.filter fun x => !p x).length + J'.length = l.length ∧
 EV Tryz.prog pol (.loop 49 122 1 [.sl 0 0 n cap, .t (.fn g []), .t (.int .i64 (K.length : Int)), .t (.int .i64 ((K.length + J.length : Nat) : Int))] [.ts 1 (strs (K ++ J ++ R))])
  = some (.loop (.exit 0) [.sl 0 0 n cap, .t (.int .i64 ((K ++ R.filter fun x => !p x).length : Int))] [.ts 1 (strs ((K ++ R.filter fun x => !p x) ++ J'))])
 | [], K, J, hR, hJ, hlen => by
  have c : decide (((K.length + J.length : Nat) : Int) < (n : Int)) = false := by simp at hlen; apply decide_eq_false; omega
  refine ⟨J, by simp at hlen; simpa using hlen, ?_⟩
  simp only [List.filter_nil, List.append_nil]
  refine zk Tryz.func49 rfl rfl ?_
  simp (disch := ((try simp only [LL]); omega)) only [↓GO, ↓DRW, GA, GX, ren, zn, za, refs, z8, cst, zr, isC, bin, una, z7, zd, blt, asArg, zg, zc, zf, z6, E.mkS, unN, ze, zq, zb, GS, simprocAttr, zD, zE, yK, yD, yI, yH, yL, gh1, yC, yr, yw, zO, mkO, yx, yt, y7, yJ, zI, yB, yA, y9, oc, oTs, oT, zM, zM.rowTs, yv, isL, Bool.not_false, Bool.true_and, Bool.and_true, Bool.and_self, List.flatMap_append, List.map_append, List.set_cons_zero, List.set_cons_succ, GZ, c, zF]
 | x :: R, K, J, hR, hJ, hlen => by
  simp only [List.length_cons] at hlen
  have c : decide (((K.length + J.length : Nat) : Int) < (n : Int)) = true := by apply decide_eq_true; omega
  have c0 : decide ((0 : Int) ≤ ((K.length + J.length : Nat) : Int)) = true := by apply decide_eq_true; omega
  have c1 : decide ((0 : Int) ≤ (K.length : Int)) = true := by apply decide_eq_true; omega
  have c2 : decide ((K.length : Int) < (n : Int)) = true := by apply decide_eq_true; omega
  have hget : (strs (K ++ J ++ x :: R))[K.length + J.length]? = some [.str x] := v7 (by rw [← List.length_append]; simp)
  have d1 := hp x (hR x (by simp))
  rw [List.filter_cons]
  cases q : p x with
  | true =>
   rw [q] at d1
   obtain ⟨J', hJ', IH⟩ := bO g p l hl hp cap n hn R K (J ++ [x]) (fun y hy => hR y (by simp [hy])) (by simp) (by simp; omega)
   rw [show K ++ (J ++ [x]) ++ R = K ++ J ++ x :: R by simp, show ((K.length + (J ++ [x]).length : Nat) : Int) = ((K.length + J.length : Nat) : Int) + 1 by simp; omega] at IH
   simp only [Bool.not_true, Bool.false_eq_true, if_false]
   refine ⟨J', hJ', ?_⟩
   generalize strs (K ++ J ++ x :: R) = E0 at *
   generalize K ++ R.filter (fun x => !p x) = Z at *
   generalize hkj : K.length + J.length = kj at *
   refine zk Tryz.func49 rfl rfl ?_
   simp (disch := ((try simp only [LL]); omega)) only [↓GO, ↓DRW, GA, GX, ren, zn, za, refs, z8, cst, zr, isC, bin, una, z7, zd, blt, asArg, zg, zc, zf, z6, E.mkS, unN, ze, zq, zb, GS, simprocAttr, zD, zE, yK, yD, yI, yH, yL, gh1, yC, yr, yw, zO, mkO, yx, yt, y7, yJ, zI, yB, yA, y9, oc, oTs, oT, zM, zM.rowTs, yv, isL, Bool.not_false, Bool.true_and, Bool.and_true, Bool.and_self, List.flatMap_append, List.map_append, List.set_cons_zero, List.set_cons_succ, GZ, c, c0, hget, d1, zo, Bool.not_true, zF, IH]
  | false =>
   rw [q] at d1
   obtain ⟨j0, Jt, rfl⟩ : ∃ j0 Jt, J = j0 :: Jt := by cases J with | nil => simp at hJ | cons a t => exact ⟨a, t, rfl⟩
   obtain ⟨J', hJ', IH⟩ := bO g p l hl hp cap n hn R (K ++ [x]) (Jt ++ [x]) (fun y hy => hR y (by simp [hy])) (by simp) (by simp at hlen ⊢; omega)
   have hset : (strs (K ++ j0 :: Jt ++ x :: R)).set K.length [.str x] = strs (K ++ [x] ++ (Jt ++ [x]) ++ R) := by
    have e1 : strs (K ++ j0 :: Jt ++ x :: R) = strs K ++ [.str j0] :: strs (Jt ++ x :: R) := by simp [strs]
    have e2 : strs (K ++ [x] ++ (Jt ++ [x]) ++ R) = strs K ++ [.str x] :: strs (Jt ++ x :: R) := by simp [strs]
    rw [e1, e2, List.set_append_right _ _ (by rw [zh]; exact Nat.le_refl _), zh, Nat.sub_self]
    rfl
   have hg0 : (strs (K ++ j0 :: Jt ++ x :: R))[K.length]? = some [.str j0] := v7 (by simp)
   rw [show ((K ++ [x]).length : Int) = (K.length : Int) + 1 by simp, show (((K ++ [x]).length + (Jt ++ [x]).length : Nat) : Int) = ((K.length + (j0 :: Jt).length : Nat) : Int) + 1 by simp; omega] at IH
   simp only [Bool.not_false, if_true]
   refine ⟨J', by simpa using hJ', ?_⟩
   rw [show K ++ x :: R.filter (fun x => !p x) = K ++ [x] ++ R.filter (fun x => !p x) by simp]
   rw [← hset] at IH
   clear hset hJ'
   generalize strs (K ++ j0 :: Jt ++ x :: R) = E0 at *
   generalize K ++ [x] ++ R.filter (fun x => !p x) = Z at *
   have hkj2 : K.length + (j0 :: Jt).length ≤ 1048576 := by omega
   generalize hkj : K.length + (j0 :: Jt).length = kj at *
   have hkl : K.length ≤ 1048576 := by omega
   generalize K.length = kl at *
   refine zk Tryz.func49 rfl rfl ?_
   simp (disch := ((try simp only [LL]); omega)) only [↓GO, ↓DRW, GA, GX, ren, zn, za, refs, z8, cst, zr, isC, bin, una, z7, zd, blt, asArg, zg, zc, zf, z6, E.mkS, unN, ze, zq, zb, GS, simprocAttr, zD, zE, yK, yD, yI, yH, yL, gh1, yC, yr, yw, zO, mkO, yx, yt, y7, yJ, zI, yB, yA, y9, oc, oTs, oT, zM, zM.rowTs, yv, isL, Bool.not_false, Bool.true_and, Bool.and_true, Bool.and_self, List.flatMap_append, List.map_append, List.set_cons_zero, List.set_cons_succ, GZ, c, c0, c1, c2, hget, hg0, d1, zo, Bool.not_false, zF, IH]
theorem Tg (g : Nat) (p : Str → Bool) (l : List Str) (hl : l.length ≤ 1048576) (hp : ∀ x ∈ l, zm (EV Tryz.prog pol) g (.t (.str x) :: []) = some (.t (.bool (p x)))) (cap : Option Nat) (n : Nat) (hn : n = l.length) : ∃ J', (l.filter fun x => !p x).length + J'.length = l.length ∧
 EV Tryz.prog pol (.callO false 49 [.sl 0 0 n cap, .t (.fn g [])] [.ts 1 (strs l)])
  = some (.call (.sl 0 0 (l.filter fun x => !p x).length cap) [.ts 1 (strs ((l.filter fun x => !p x) ++ J'))]) := by
 have d1 := lZ g [] p l (by omega) hp
 have ht : (strs l).take n = strs l := List.take_of_length_le (by rw [zh]; omega)
 cases hf : xR p l 0 with
 | none =>
  rw [hf] at d1
  have hw := dk p l hf
  refine ⟨[], by rw [hw]; simp, ?_⟩
  rw [hw, List.append_nil, ← hn]
  simp only [ixI] at d1
  refine zN Tryz.func49 rfl (by kernel_rfl) ?_
  unfold Tryz.f49
  simp (disch := ((try simp only [LL]); omega)) only [↓GO, ↓DRW, GA, GX, ren, zn, za, refs, z8, cst, zr, isC, bin, una, z7, zd, blt, asArg, zg, zc, zf, z6, E.mkS, unN, ze, zq, zb, GS, simprocAttr, zD, zE, yK, yD, yI, yH, yL, gh1, yC, yr, yw, zO, mkO, yx, yt, y7, yJ, zI, yB, yA, y9, oc, oTs, oT, zM, zM.rowTs, yv, isL, Bool.not_false, Bool.true_and, Bool.and_true, Bool.and_self, List.flatMap_append, List.map_append, List.set_cons_zero, List.set_cons_succ, GZ, d1, wD, ht, beq_self_eq_true, zF]
 | some i =>
  rw [hf] at d1
  obtain ⟨pre, x, post, e1, e2, e3, e4⟩ := sI _ l 0 i hf
  simp only [Nat.zero_add] at e2
  have hw := jn (i := i) e1 e3 e4
  have hlen : pre.length + 1 + post.length = l.length := by have h9 := congrArg List.length e1; simp at h9; omega
  have hmap : Option.map (fun x : Nat => x) cap = cap := by cases cap <;> rfl
  obtain ⟨J', hJ', L⟩ := bO g p l hl hp cap n hn post pre [x] (fun y hy => by rw [e1]; simp [hy]) (by simp) (by simpa using hlen)
  rw [show pre ++ [x] ++ post = l by rw [e1]; simp, show ((pre.length + [x].length : Nat) : Int) = (pre.length : Int) + 1 by simp, e2] at L
  have c0 : ((i : Int) == -1) = false := by rw [beq_eq_false_iff_ne]; omega
  have hwl : (l.filter fun x => !p x).length ≤ n := by rw [hn]; exact List.length_filter_le _ _
  rw [← hw] at L hJ'
  generalize (l.filter fun x => !p x) = Z at *
  have htk : (strs (Z ++ J')).take Z.length = strs Z := by rw [show strs (Z ++ J') = strs Z ++ strs J' by simp [strs], ← zh Z]; simp
  have hdk : (strs (Z ++ J')).drop (Z.length + (n - Z.length)) = [] := List.drop_of_length_le (by rw [zh, List.length_append]; omega)
  have hEl : (strs (Z ++ J')).length = n := by rw [zh, List.length_append, hn]; exact hJ'
  have hrp : strs Z ++ List.replicate (n - Z.length) [.str []] = strs (Z ++ List.replicate (n - Z.length) []) := by simp [strs]
  refine ⟨List.replicate (n - Z.length) [], by rw [List.length_replicate]; omega, ?_⟩
  rw [← hrp]
  have hil : i ≤ 1048576 := by omega
  have hnl : n ≤ 1048576 := by omega
  simp only [ixI] at d1
  clear hw hJ' hrp e1 hf e4 e3 hlen hp
  generalize strs (Z ++ J') = E1 at *
  have c1 : Z.length + (n - Z.length) ≤ n := by omega
  refine zN Tryz.func49 rfl (by kernel_rfl) ?_
  unfold Tryz.f49
  simp (disch := ((try simp only [LL]); omega)) only [↓GO, ↓DRW, GA, GX, ren, zn, za, refs, z8, cst, zr, isC, bin, una, z7, zd, blt, asArg, zg, zc, zf, z6, E.mkS, unN, ze, zq, zb, GS, simprocAttr, zD, zE, yK, yD, yI, yH, yL, gh1, yC, yr, yw, zO, mkO, yx, yt, y7, yJ, zI, yB, yA, y9, oc, oTs, oT, zM, zM.rowTs, yv, isL, Bool.not_false, Bool.true_and, Bool.and_true, Bool.and_self, List.flatMap_append, List.map_append, List.set_cons_zero, List.set_cons_succ, GZ, d1, wD, ht, c0, L, hEl, htk, hdk, zo, List.append_nil, zF, Nat.zero_add, Nat.sub_zero, c1, and_self, if_true, List.append_assoc, hmap]
theorem kz (a b : List zy) : zy.zi (a ++ b) = zy.zi a ++ zy.zi b := by simp [zy.zi]
theorem ai {l : List zy} {i : Nat} {s : zy} (h : l[i]? = some s) : (zy.zi l)[i]? = some [.str s.alg, .str s.bytes] := by simp [zy.zi, zy.enc, h]
theorem Tw (g k : Nat) (cell : T) (p : zy → Bool) (l : List zy) (hl : l.length ≤ 1048576) (hp : ∀ x ∈ l, zm (EV Tryz.prog pol) g (.agg (x.enc.map .t) :: [.t (.fp [.fn k [.fp [cell]]])]) = some (.t (.bool (p x)))) (cap : Option Nat) (n : Nat) (hn : n = l.length) : ∀ (R K J : List zy), (∀ x ∈ R, x ∈ l) → 1 ≤ J.length → K.length + J.length + R.length = l.length → ∃ J', (K ++ R.filter fun x => !p x).length + J'.length = l.length ∧
 EV Tryz.prog pol (.loop 99 122 3 [.sl 0 0 n cap, .fn g [.ptr 1 0 0], .t (.int .i64 (K.length : Int)), .t (.int .i64 ((K.length + J.length : Nat) : Int))] [.ts 2 (zy.zi (K ++ J ++ R)), .vs 1 [[.fn k [.ptr 2 0 0]]], .vs 1 [[.t cell]]])
  = some (.loop (.exit 0) [.sl 0 0 n cap, .t (.int .i64 ((K ++ R.filter fun x => !p x).length : Int))] [.ts 2 (zy.zi ((K ++ R.filter fun x => !p x) ++ J')), .vs 1 [[.fn k [.ptr 2 0 0]]], .vs 1 [[.t cell]]])
 | [], K, J, hR, hJ, hlen => by
  have c : decide (((K.length + J.length : Nat) : Int) < (n : Int)) = false := by simp at hlen; apply decide_eq_false; omega
  refine ⟨J, by simp at hlen; simpa using hlen, ?_⟩
  simp only [List.filter_nil, List.append_nil]
  refine zk Tryz.func99 rfl rfl ?_
  simp (disch := ((try simp only [LL]); omega)) only [↓GO, ↓DRW, GA, GX, ren, zn, za, refs, z8, cst, zr, isC, bin, una, z7, zd, blt, asArg, zg, zc, zf, z6, E.mkS, unN, ze, zq, zb, GS, simprocAttr, zD, zE, yK, yD, yI, yH, yL, gh1, yC, yr, yw, zO, mkO, yx, yt, y7, yJ, zI, yB, yA, y9, oc, oTs, oT, zM, zM.rowTs, yv, isL, Bool.not_false, Bool.true_and, Bool.and_true, Bool.and_self, List.flatMap_append, List.map_append, List.set_cons_zero, List.set_cons_succ, GZ, c, zF]
 | x :: R, K, J, hR, hJ, hlen => by
  simp only [List.length_cons] at hlen
  have c : decide (((K.length + J.length : Nat) : Int) < (n : Int)) = true := by apply decide_eq_true; omega
  have c0 : decide ((0 : Int) ≤ ((K.length + J.length : Nat) : Int)) = true := by apply decide_eq_true; omega
  have c1 : decide ((0 : Int) ≤ (K.length : Int)) = true := by apply decide_eq_true; omega
  have c2 : decide ((K.length : Int) < (n : Int)) = true := by apply decide_eq_true; omega
  have hget : (zy.zi (K ++ J ++ x :: R))[K.length + J.length]? = some [.str x.alg, .str x.bytes] := ai (by rw [← List.length_append]; simp)
  have d1 := hp x (hR x (by simp))
  rw [List.filter_cons]
  cases q : p x with
  | true =>
   rw [q] at d1
   obtain ⟨J', hJ', IH⟩ := Tw g k cell p l hl hp cap n hn R K (J ++ [x]) (fun y hy => hR y (by simp [hy])) (by simp) (by simp; omega)
   rw [show K ++ (J ++ [x]) ++ R = K ++ J ++ x :: R by simp, show ((K.length + (J ++ [x]).length : Nat) : Int) = ((K.length + J.length : Nat) : Int) + 1 by simp; omega] at IH
   simp only [Bool.not_true, Bool.false_eq_true, if_false]
   refine ⟨J', hJ', ?_⟩
   simp only [zy.enc, List.map_cons, List.map_nil] at d1
   generalize zy.zi (K ++ J ++ x :: R) = E0 at *
   generalize K ++ R.filter (fun x => !p x) = Z at *
   generalize hkj : K.length + J.length = kj at *
   refine zk Tryz.func99 rfl rfl ?_
   simp (disch := ((try simp only [LL]); omega)) only [↓GO, ↓DRW, GA, GX, ren, zn, za, refs, z8, cst, zr, isC, bin, una, z7, zd, blt, asArg, zg, zc, zf, z6, E.mkS, unN, ze, zq, zb, GS, simprocAttr, zD, zE, yK, yD, yI, yH, yL, gh1, yC, yr, yw, zO, mkO, yx, yt, y7, yJ, zI, yB, yA, y9, oc, oTs, oT, zM, zM.rowTs, yv, isL, Bool.not_false, Bool.true_and, Bool.and_true, Bool.and_self, List.flatMap_append, List.map_append, List.set_cons_zero, List.set_cons_succ, GZ, c, c0, hget, d1, zo, Bool.not_true, zF, IH]
  | false =>
   rw [q] at d1
   obtain ⟨j0, Jt, rfl⟩ : ∃ j0 Jt, J = j0 :: Jt := by cases J with | nil => simp at hJ | cons a t => exact ⟨a, t, rfl⟩
   obtain ⟨J', hJ', IH⟩ := Tw g k cell p l hl hp cap n hn R (K ++ [x]) (Jt ++ [x]) (fun y hy => hR y (by simp [hy])) (by simp) (by simp at hlen ⊢; omega)
   have hset : (zy.zi (K ++ j0 :: Jt ++ x :: R)).set K.length [.str x.alg, .str x.bytes] = zy.zi (K ++ [x] ++ (Jt ++ [x]) ++ R) := by
    have e1 : zy.zi (K ++ j0 :: Jt ++ x :: R) = zy.zi K ++ j0.enc :: zy.zi (Jt ++ x :: R) := by simp [zy.zi]
    have e2 : zy.zi (K ++ [x] ++ (Jt ++ [x]) ++ R) = zy.zi K ++ x.enc :: zy.zi (Jt ++ x :: R) := by simp [zy.zi]
    rw [e1, e2, List.set_append_right _ _ (by rw [zy.zj]; exact Nat.le_refl _), zy.zj, Nat.sub_self]
    rfl
   have hg0 : (zy.zi (K ++ j0 :: Jt ++ x :: R))[K.length]? = some [.str j0.alg, .str j0.bytes] := ai (by simp)
   rw [show ((K ++ [x]).length : Int) = (K.length : Int) + 1 by simp, show (((K ++ [x]).length + (Jt ++ [x]).length : Nat) : Int) = ((K.length + (j0 :: Jt).length : Nat) : Int) + 1 by simp; omega] at IH
   simp only [Bool.not_false, if_true]
   refine ⟨J', by simpa using hJ', ?_⟩
   rw [show K ++ x :: R.filter (fun x => !p x) = K ++ [x] ++ R.filter (fun x => !p x) by simp]
   rw [← hset] at IH
   clear hset hJ'
   simp only [zy.enc, List.map_cons, List.map_nil] at d1
   generalize zy.zi (K ++ j0 :: Jt ++ x :: R) = E0 at *
   generalize K ++ [x] ++ R.filter (fun x => !p x) = Z at *
   have hkj2 : K.length + (j0 :: Jt).length ≤ 1048576 := by omega
   generalize hkj : K.length + (j0 :: Jt).length = kj at *
   have hkl : K.length ≤ 1048576 := by omega
   generalize K.length = kl at *
   refine zk Tryz.func99 rfl rfl ?_
   simp (disch := ((try simp only [LL]); omega)) only [↓GO, ↓DRW, GA, GX, ren, zn, za, refs, z8, cst, zr, isC, bin, una, z7, zd, blt, asArg, zg, zc, zf, z6, E.mkS, unN, ze, zq, zb, GS, simprocAttr, zD, zE, yK, yD, yI, yH, yL, gh1, yC, yr, yw, zO, mkO, yx, yt, y7, yJ, zI, yB, yA, y9, oc, oTs, oT, zM, zM.rowTs, yv, isL, Bool.not_false, Bool.true_and, Bool.and_true, Bool.and_self, List.flatMap_append, List.map_append, List.set_cons_zero, List.set_cons_succ, GZ, c, c0, c1, c2, hget, hg0, d1, zo, Bool.not_false, zF, IH]
theorem c_dfM (g k : Nat) (cell : T) (p : zy → Bool) (l : List zy) (hl : l.length ≤ 1048576) (hp : ∀ x ∈ l, zm (EV Tryz.prog pol) g (.agg (x.enc.map .t) :: [.t (.fp [.fn k [.fp [cell]]])]) = some (.t (.bool (p x)))) (cap : Option Nat) (n : Nat) (hn : n = l.length) : ∃ J', (l.filter fun x => !p x).length + J'.length = l.length ∧
 EV Tryz.prog pol (.callO false 99 [.sl 0 0 n cap, .fn g [.ptr 1 0 0]] [.ts 2 (zy.zi l), .vs 1 [[.fn k [.ptr 2 0 0]]], .vs 1 [[.t cell]]])
  = some (.call (.sl 0 0 (l.filter fun x => !p x).length cap) [.ts 2 (zy.zi ((l.filter fun x => !p x) ++ J')), .vs 1 [[.fn k [.ptr 2 0 0]]], .vs 1 [[.t cell]]]) := by
 have d1 := mQ g [.fp [.fn k [.fp [cell]]]] p l (by omega) hp
 have ht : (zy.zi l).take n = zy.zi l := List.take_of_length_le (by rw [zy.zj]; omega)
 cases hf : xR p l 0 with
 | none =>
  rw [hf] at d1
  have hw := dk p l hf
  refine ⟨[], by rw [hw]; simp, ?_⟩
  rw [hw, List.append_nil, ← hn]
  simp only [ixI] at d1
  refine zN Tryz.func99 rfl (by kernel_rfl) ?_
  unfold Tryz.f99
  simp (disch := ((try simp only [LL]); omega)) only [↓GO, ↓DRW, GA, GX, ren, zn, za, refs, z8, cst, zr, isC, bin, una, z7, zd, blt, asArg, zg, zc, zf, z6, E.mkS, unN, ze, zq, zb, GS, simprocAttr, zD, zE, yK, yD, yI, yH, yL, gh1, yC, yr, yw, zO, mkO, yx, yt, y7, yJ, zI, yB, yA, y9, oc, oTs, oT, zM, zM.rowTs, yv, isL, Bool.not_false, Bool.true_and, Bool.and_true, Bool.and_self, List.flatMap_append, List.map_append, List.set_cons_zero, List.set_cons_succ, GZ, d1, wD, ht, beq_self_eq_true, zF]
 | some i =>
  rw [hf] at d1
  obtain ⟨pre, x, post, e1, e2, e3, e4⟩ := sI _ l 0 i hf
  simp only [Nat.zero_add] at e2
  have hw := jn (i := i) e1 e3 e4
  have hlen : pre.length + 1 + post.length = l.length := by have h9 := congrArg List.length e1; simp at h9; omega
  have hmap : Option.map (fun x : Nat => x) cap = cap := by cases cap <;> rfl
  obtain ⟨J', hJ', L⟩ := Tw g k cell p l hl hp cap n hn post pre [x] (fun y hy => by rw [e1]; simp [hy]) (by simp) (by simpa using hlen)
  rw [show pre ++ [x] ++ post = l by rw [e1]; simp, show ((pre.length + [x].length : Nat) : Int) = (pre.length : Int) + 1 by simp, e2] at L
  have c0 : ((i : Int) == -1) = false := by rw [beq_eq_false_iff_ne]; omega
  have hwl : (l.filter fun x => !p x).length ≤ n := by rw [hn]; exact List.length_filter_le _ _
  rw [← hw] at L hJ'
  generalize (l.filter fun x => !p x) = Z at *
  have htk : (zy.zi (Z ++ J')).take Z.length = zy.zi Z := by rw [kz, ← zy.zj Z]; simp
  have hdk : (zy.zi (Z ++ J')).drop (Z.length + (n - Z.length)) = [] := List.drop_of_length_le (by rw [zy.zj, List.length_append]; omega)
  have hEl : (zy.zi (Z ++ J')).length = n := by rw [zy.zj, List.length_append, hn]; exact hJ'
  have hrp : zy.zi Z ++ List.replicate (n - Z.length) [.str [], .str []] = zy.zi (Z ++ List.replicate (n - Z.length) ⟨[], []⟩) := by simp [zy.zi, zy.enc]
  refine ⟨List.replicate (n - Z.length) ⟨[], []⟩, by rw [List.length_replicate]; omega, ?_⟩
  rw [← hrp]
  have hil : i ≤ 1048576 := by omega
  have hnl : n ≤ 1048576 := by omega
  simp only [ixI] at d1
  clear hw hJ' hrp e1 hf e4 e3 hlen hp
  generalize zy.zi (Z ++ J') = E1 at *
  have c1 : Z.length + (n - Z.length) ≤ n := by omega
  refine zN Tryz.func99 rfl (by kernel_rfl) ?_
  unfold Tryz.f99
  simp (disch := ((try simp only [LL]); omega)) only [↓GO, ↓DRW, GA, GX, ren, zn, za, refs, z8, cst, zr, isC, bin, una, z7, zd, blt, asArg, zg, zc, zf, z6, E.mkS, unN, ze, zq, zb, GS, simprocAttr, zD, zE, yK, yD, yI, yH, yL, gh1, yC, yr, yw, zO, mkO, yx, yt, y7, yJ, zI, yB, yA, y9, oc, oTs, oT, zM, zM.rowTs, yv, isL, Bool.not_false, Bool.true_and, Bool.and_true, Bool.and_self, List.flatMap_append, List.map_append, List.set_cons_zero, List.set_cons_succ, GZ, d1, wD, ht, c0, L, hEl, htk, hdk, zo, List.append_nil, zF, Nat.zero_add, Nat.sub_zero, c1, and_self, if_true, List.append_assoc, hmap]
end Go.Proofs.YtonbkdklidfmfaaGreatDoor
/- Project's parts, the program's way. Conditions: those of each lemma. -/
namespace Go.Proofs.YtonbkdklidfmfaaGreatDoor
open E
set_option linter.unusedSimpArgs false
set_option linter.unusedVariables false
set_option maxRecDepth 100000
theorem Vj (k : Str) (hl : k.length ≤ 4611686018427387904) : zm (EV Tryz.prog pol) 48 [.t (.str k)] = some (.t (.str (vH k).1)) := by
 have d1 := c_skI k hl
 apply zu
 refine zw rfl Tryz.func48 rfl (by kernel_rfl) ?_
 unfold Tryz.f48
 simp (disch := ((try simp only [LL]); omega)) only [↓GO, ↓DRW, GA, GX, ren, zn, za, refs, z8, cst, zr, isC, bin, una, z7, zd, blt, asArg, zg, zc, zf, z6, E.mkS, unN, ze, zq, zb, GS, simprocAttr, GZ, d1, zF]
theorem RN (k : Str) (hl : k.length ≤ 4611686018427387904) : zm (EV Tryz.prog pol) 47 (.t (.str k) :: []) = some (.t (.bool (rootKey k))) := by
 have d1 := Vj k hl
 unfold rootKey xk
 apply zu
 refine zw rfl Tryz.func47 rfl (by kernel_rfl) ?_
 unfold Tryz.f47
 simp (disch := ((try simp only [LL]); omega)) only [↓GO, ↓DRW, GA, GX, ren, zn, za, refs, z8, cst, zr, isC, bin, una, z7, zd, blt, asArg, zg, zc, zf, z6, E.mkS, unN, ze, zq, zb, GS, simprocAttr, GZ, d1, zF]
theorem c_pj2 (x : z1) : zm (EV Tryz.prog pol) 51 (.agg (x.enc.map .t) :: []) = some (.t (.bool (x.name == xk))) := by
 obtain ⟨name, version, source, sums, dev, zz⟩ := x
 simp only [z1.enc, List.map_cons, List.map_nil, xk]
 apply zu
 refine zw rfl Tryz.func51 rfl (by kernel_rfl) ?_
 unfold Tryz.f51
 simp (disch := ((try simp only [LL]); omega)) only [↓GO, ↓DRW, GA, GX, ren, zn, za, refs, z8, cst, zr, isC, bin, una, z7, zd, blt, asArg, zg, zc, zf, z6, E.mkS, unN, ze, zq, zb, GS, simprocAttr, GZ, zF]
theorem c_hs1 (a : Str) (s : zy) : zm (EV Tryz.prog pol) 98 (.agg (s.enc.map .t) :: [.t (.fp [.str a])]) = some (.t (.bool (s.alg == a))) := by
 obtain ⟨alg, bytes⟩ := s
 simp only [zy.enc, List.map_cons, List.map_nil]
 apply zu
 refine zw rfl Tryz.func98 rfl (by kernel_rfl) ?_
 unfold Tryz.f98
 simp (disch := ((try simp only [LL]); omega)) only [↓GO, ↓DRW, GA, GX, ren, zn, za, refs, z8, cst, zr, isC, bin, una, z7, zd, blt, asArg, zg, zc, zf, z6, E.mkS, unN, ze, zq, zb, GS, simprocAttr, GZ, zF]
theorem QB (x : z1) (hb : x.zV ≤ 1048576) (a : Str) : zm (EV Tryz.prog pol) 53 [.agg (x.enc.map .t), .t (.str a)] = some (.t (.bool (xl a x))) := by
 have d1 := cR 98 [.fp [.str a]] (fun s => s.alg == a) x.sums (by unfold z1.zV at hb; omega) fun s _ => c_hs1 a s
 unfold xl
 generalize (x.sums.any fun s => s.alg == a) = b at *
 obtain ⟨name, version, source, sums, dev, zz⟩ := x
 simp only [z1.enc, List.map_cons, List.map_nil] at d1 ⊢
 apply zu
 refine zw rfl Tryz.func53 rfl (by kernel_rfl) ?_
 unfold Tryz.f53
 simp (disch := ((try simp only [LL]); omega)) only [↓GO, ↓DRW, GA, GX, ren, zn, za, refs, z8, cst, zr, isC, bin, una, z7, zd, blt, asArg, zg, zc, zf, z6, E.mkS, unN, ze, zq, zb, GS, simprocAttr, GZ, d1, wD, zF]
theorem c_pj3 (x : z1) (hb : x.zV ≤ 1048576) : zm (EV Tryz.prog pol) 52 (.agg (x.enc.map .t) :: []) = some (.t (.bool (!xl sH1 x))) := by
 have d1 := QB x hb sH1
 obtain ⟨name, version, source, sums, dev, zz⟩ := x
 simp only [z1.enc, List.map_cons, List.map_nil, sH1] at d1 ⊢
 apply zu
 refine zw rfl Tryz.func52 rfl (by kernel_rfl) ?_
 unfold Tryz.f52
 simp (disch := ((try simp only [LL]); omega)) only [↓GO, ↓DRW, GA, GX, ren, zn, za, refs, z8, cst, zr, isC, bin, una, z7, zd, blt, asArg, zg, zc, zf, z6, E.mkS, unN, ze, zq, zb, GS, simprocAttr, GZ, d1, zF]
theorem c_pj4 (p x : z1) : zm (EV Tryz.prog pol) 55 (.agg (x.enc.map .t) :: [.t (.fp p.enc)]) = some (.t (.bool (xW p x))) := by
 unfold xW
 obtain ⟨name, version, source, sums, dev, zz⟩ := p
 obtain ⟨name', version', source', sums', dev', needs'⟩ := x
 simp only [z1.enc, List.map_cons, List.map_nil]
 cases q : (name' == name) with
 | true =>
  apply zu
  refine zw rfl Tryz.func55 rfl (by kernel_rfl) ?_
  unfold Tryz.f55
  simp (disch := ((try simp only [LL]); omega)) only [↓GO, ↓DRW, GA, GX, ren, zn, za, refs, z8, cst, zr, isC, bin, una, z7, zd, blt, asArg, zg, zc, zf, z6, E.mkS, unN, ze, zq, zb, GS, simprocAttr, GZ, q, zF]
 | false =>
  apply zu
  refine zw rfl Tryz.func55 rfl (by kernel_rfl) ?_
  unfold Tryz.f55
  simp (disch := ((try simp only [LL]); omega)) only [↓GO, ↓DRW, GA, GX, ren, zn, za, refs, z8, cst, zr, isC, bin, una, z7, zd, blt, asArg, zg, zc, zf, z6, E.mkS, unN, ze, zq, zb, GS, simprocAttr, GZ, q, zF]
theorem c_pj5 (f : Int) (hf : u9 f) (s : zy) : zm (EV Tryz.prog pol) 57 [.t (.str s.alg), .t (.fp [.int .i64 f])] = some (.t (.bool (xm f s))) := by
 obtain ⟨alg, bytes⟩ := s
 unfold xm TA sH1
 rcases hf with rfl | rfl | rfl | rfl | rfl
 all_goals
  simp only [Int.reduceBEq, Bool.or_false, Bool.or_true, Bool.false_or, cond_true, cond_false]
  apply zu
  refine zw rfl Tryz.func57 rfl (by kernel_rfl) ?_
  unfold Tryz.f57
  simp (disch := ((try simp only [LL]); omega)) only [↓GO, ↓DRW, GA, GX, ren, zn, za, refs, z8, cst, zr, isC, bin, una, z7, zd, blt, asArg, zg, zc, zf, z6, E.mkS, unN, ze, zq, zb, GS, simprocAttr, GZ, bne, zF]
theorem c_os1 (f : Int) (hf : u9 f) (s : zy) : zm (EV Tryz.prog pol) 100 (.agg (s.enc.map .t) :: [.t (.fp [.fn 57 [.fp [.int .i64 f]]])]) = some (.t (.bool (!xm f s))) := by
 have d1 := c_pj5 f hf s
 obtain ⟨alg, bytes⟩ := s
 simp only [zy.enc, List.map_cons, List.map_nil] at d1 ⊢
 apply zu
 refine zw rfl Tryz.func100 rfl (by kernel_rfl) ?_
 unfold Tryz.f100
 simp (disch := ((try simp only [LL]); omega)) only [↓GO, ↓DRW, GA, GX, ren, zn, za, refs, z8, cst, zr, isC, bin, una, z7, zd, blt, asArg, zg, zc, zf, z6, E.mkS, unN, ze, zq, zb, GS, simprocAttr, GZ, d1, zF]
theorem Sk (f : Int) (l : List zy) : (l.filter fun x => !(!xm f x)) = l.filter (xm f) := by
 congr 1
 funext x
 rw [Bool.not_not]
theorem c_osI (f : Int) (hf : u9 f) (A B : List (List V)) (hA : noR A) (hB : noR B) (i : Nat) (hi : A.length = i) (x : z1) (hb : x.zV ≤ 1048576) (n : Nat) (hn : n = x.sums.length) : ∃ J, (x.sums.filter (xm f)).length + J.length = x.sums.length ∧
 EV Tryz.prog pol (.callO false 56 [.ptr 0 i 0, .fn 57 [.ptr 1 0 0]] [.vs 6 (A ++ [.t (.str x.name), .t (.str x.version), .t (.str x.source), .sl 2 0 n none, .t (.bool x.dev), .o (.list 1 (strs x.zz))] :: B), .vs 1 [[.t (.int .i64 f)]], .ts 2 (zy.zi x.sums)])
  = some (.call (.tup []) [.vs 6 (A ++ [.t (.str x.name), .t (.str x.version), .t (.str x.source), .sl 2 0 (x.sums.filter (xm f)).length none, .t (.bool x.dev), .o (.list 1 (strs x.zz))] :: B), .vs 1 [[.t (.int .i64 f)]], .ts 2 (zy.zi (x.sums.filter (xm f) ++ J))]) := by
 obtain ⟨J, hJ, d1⟩ := c_dfM 100 57 (.int .i64 f) (fun s => !xm f s) x.sums (by unfold z1.zV at hb; omega) (fun s _ => c_os1 f hf s) none n hn
 rw [Sk] at d1 hJ
 refine ⟨J, hJ, ?_⟩
 obtain ⟨hA1, hA2, _⟩ := hA
 obtain ⟨hB1, hB2, _⟩ := hB
 have hg := fun y => xJ A B y i hi
 have hs := fun y z => xw A B y z i hi
 generalize zy.zi (x.sums.filter (xm f) ++ J) = E1 at *
 generalize (x.sums.filter (xm f)).length = z at *
 obtain ⟨name, version, source, sums, dev, zz⟩ := x
 simp only at d1 ⊢
 generalize zy.zi sums = E0 at *
 generalize strs zz = E2 at *
 clear hJ hb hi hn
 refine zN Tryz.func56 rfl (by kernel_rfl) ?_
 unfold Tryz.f56
 simp (disch := ((try simp only [LL]); omega)) only [↓GO, ↓DRW, GA, GX, ren, zn, za, refs, z8, cst, zr, isC, bin, una, z7, zd, blt, asArg, zg, zc, zf, z6, E.mkS, unN, ze, zq, zb, GS, simprocAttr, zD, zE, yK, yD, yI, yH, yL, gh1, yC, yr, yw, zO, mkO, yx, yt, y7, yJ, zI, yB, yA, y9, oc, oTs, oT, zM, zM.rowTs, yv, isL, Bool.not_false, Bool.true_and, Bool.and_true, Bool.and_self, List.flatMap_append, List.map_append, List.set_cons_zero, List.set_cons_succ, GZ, d1, hg, hs, hA1, hA2, hB1, hB2, zF]
set_option maxHeartbeats 4000000 in
theorem Rv (f : Int) (tT : List (List T)) (nt : Nat) (n : Nat) : ∀ (rest pre : List z1), n = pre.length + rest.length → n ≤ 1048576 → (∀ x ∈ rest, x.zV ≤ 1048576) →
 EV Tryz.prog pol (.loop 10 62942 0 [.ptr 0 0 0, .ptr 1 0 0, .ptr 2 0 0, .t (.fn 47 []), .sl 3 0 n none, .t (.int .i64 (n : Int)), .t (.int .i64 (pre.length : Int))] [.vs 1 [[.t (.int .i64 f)]], .vs 2 [zG], .vs 2 [[.sl 4 0 nt none, .sl 3 0 n none]], .vs 6 (ocE (z1.zi pre) ++ ocE (z1.zi rest)), .ts 1 tT])
  = some (.loop (.exit 1) [.ptr 0 0 0, .ptr 1 0 0, .ptr 2 0 0] [.vs 1 [[.t (.int .i64 f)]], .vs 2 [zG], .vs 2 [[.sl 3 0 nt none, .sl 4 0 n none]], .ts 1 tT, .vs 6 (ocE (z1.zi (pre ++ rest.map xn)))])
 | [], pre, hn, hM, hb => by
  have c : decide ((pre.length : Int) < (n : Int)) = false := by simp at hn; apply decide_eq_false; omega
  obtain ⟨h1, h2, _⟩ := xb pre
  rw [List.map_nil, List.append_nil, show ocE (z1.zi []) = [] from rfl, List.append_nil]
  generalize ocE (z1.zi pre) = E0 at *
  simp only [zG]
  refine zk Tryz.func10 rfl rfl ?_
  simp (disch := ((try simp only [LL]); omega)) only [↓GO, ↓DRW, GA, GX, ren, zn, za, refs, z8, cst, zr, isC, bin, una, z7, zd, blt, asArg, zg, zc, zf, z6, E.mkS, unN, ze, zq, zb, GS, simprocAttr, zD, zE, yK, yD, yI, yH, yL, gh1, yC, yr, yw, zO, mkO, yx, yt, y7, yJ, zI, yB, yA, y9, oc, oTs, oT, zM, zM.rowTs, yv, isL, Bool.not_false, Bool.true_and, Bool.and_true, Bool.and_self, List.flatMap_append, List.map_append, List.set_cons_zero, List.set_cons_succ, GZ, c, h1, h2, zF]
 | x :: rest, pre, hn, hM, hb => by
  simp only [List.length_cons] at hn
  have c : decide ((pre.length : Int) < (n : Int)) = true := by apply decide_eq_true; omega
  have c0 : decide ((0 : Int) ≤ (pre.length : Int)) = true := by apply decide_eq_true; omega
  have c00 : (0 : Int) ≤ (pre.length : Int) := by omega
  have hpl : pre.length ≤ 1048576 := by omega
  have hPl : (ocE (z1.zi pre)).length = pre.length := by rw [zT, z1.zj]
  have IH := Rv f tT nt n rest (pre ++ [xn x]) (by simp; omega) hM (fun y hy => hb y (by simp [hy]))
  rw [wJ, show ocE (z1.zi [xn x]) = [[V.t (.str x.name), .t (.str x.version), .t (.str x.source), .o (.list 2 (zy.zi x.sums)), .t (.bool x.dev), .o (.list 1 (strs (x.zz.filter fun k => !rootKey k)))]] from rfl, show ((pre ++ [xn x]).length : Int) = (pre.length : Int) + 1 by simp, List.append_assoc, List.singleton_append, List.append_assoc, List.singleton_append] at IH
  rw [dS, List.map_cons]
  have hxb := hb x (by simp)
  have hnl : x.zz.length ≤ 1048576 := by unfold z1.zV at hxb; omega
  obtain ⟨J, hJ, d1⟩ := Tg 47 rootKey x.zz hnl (fun k hk => RN k (by have := qE hk; unfold z1.zV at hxb; omega)) none x.zz.length rfl
  obtain ⟨hA1, hA2, _⟩ := xb pre
  obtain ⟨hB1, hB2, _⟩ := xb rest
  have hg := fun y => xJ (ocE (z1.zi pre)) (ocE (z1.zi rest)) y pre.length hPl
  have hs := fun y z => xw (ocE (z1.zi pre)) (ocE (z1.zi rest)) y z pre.length hPl
  have hf2 := yp x.zz
  have hs2 := zh x.zz
  have hk2 : (strs x.zz).take x.zz.length = strs x.zz := List.take_of_length_le (by rw [hs2]; exact Nat.le_refl _)
  generalize (x.zz.filter fun k => !rootKey k) = Z at *
  have hE : (strs (Z ++ J)).take Z.length = strs Z := by rw [show strs (Z ++ J) = strs Z ++ strs J by simp [strs], ← zh Z]; simp
  have hEf := yp Z
  have hEf1 := yp (Z ++ J)
  have hEl : (strs (Z ++ J)).length = Z.length + J.length := by rw [zh, List.length_append]
  have hZl : Z.length ≤ (strs (Z ++ J)).length := by omega
  obtain ⟨name, version, source, sums, dev, zz⟩ := x
  simp only at IH d1 hf2 hs2 hk2 hnl hJ ⊢
  generalize ocE (z1.zi (pre ++ xn (z1.mk name version source sums dev zz) :: rest.map xn)) = R at *
  generalize ocE (z1.zi pre) = P at *
  generalize ocE (z1.zi rest) = B at *
  generalize zy.zi sums = es1 at *
  clear hb hxb hPl hn
  simp only [zG] at IH ⊢
  by_cases hq : (strs (Z ++ J)).length = Z.length
  · have hJ0 : J = [] := List.eq_nil_of_length_eq_zero (by omega)
    subst hJ0
    rw [List.append_nil] at *
    generalize strs Z = E1 at *
    generalize strs zz = E2 at *
    generalize pre.length = kl at *
    refine zk Tryz.func10 rfl rfl ?_
    simp (maxSteps := 1000000) (disch := ((try simp only [LL]); omega)) only [↓GO, ↓DRW, GA, GX, ren, zn, za, refs, z8, cst, zr, isC, bin, una, z7, zd, blt, asArg, zg, zc, zf, z6, E.mkS, unN, ze, zq, zb, GS, simprocAttr, zD, zE, yK, yD, yI, yH, yL, gh1, yC, yr, yw, zO, mkO, yx, yt, y7, yJ, zI, yB, yA, y9, oc, oTs, oT, zM, zM.rowTs, yv, isL, Bool.not_false, Bool.true_and, Bool.and_true, Bool.and_self, List.flatMap_append, List.map_append, List.set_cons_zero, List.set_cons_succ, GZ, c, c0, c00, if_true, Int.toNat_natCast, hg, hs, hf2, hs2, hk2, d1, hA1, hA2, hB1, hB2, hEf, hq, zo, zF, IH]
    all_goals (refine yQ (by kernel_rfl) ?_; rfl)
  · have hq' : ((strs (Z ++ J)).length = Z.length) = False := eq_false hq
    generalize strs (Z ++ J) = E0 at *
    generalize strs Z = E1 at *
    generalize strs zz = E2 at *
    generalize pre.length = kl at *
    refine zk Tryz.func10 rfl rfl ?_
    simp (maxSteps := 1000000) (disch := ((try simp only [LL]); omega)) only [↓GO, ↓DRW, GA, GX, ren, zn, za, refs, z8, cst, zr, isC, bin, una, z7, zd, blt, asArg, zg, zc, zf, z6, E.mkS, unN, ze, zq, zb, GS, simprocAttr, zD, zE, yK, yD, yI, yH, yL, gh1, yC, yr, yw, zO, mkO, yx, yt, y7, yJ, zI, yB, yA, y9, oc, oTs, oT, zM, zM.rowTs, yv, isL, Bool.not_false, Bool.true_and, Bool.and_true, Bool.and_self, List.flatMap_append, List.map_append, List.set_cons_zero, List.set_cons_succ, GZ, c, c0, c00, if_true, Int.toNat_natCast, hg, hs, hf2, hs2, hk2, d1, hA1, hA2, hB1, hB2, hEf, hE, hq', hZl, false_and, if_false, zo, zF, IH]
    all_goals (refine yQ (by kernel_rfl) ?_; rfl)
end Go.Proofs.YtonbkdklidfmfaaGreatDoor
/- Project's loops, the program's way. Conditions: those of each lemma. -/
namespace Go.Proofs.YtonbkdklidfmfaaGreatDoor
open E
set_option linter.unusedSimpArgs false
set_option linter.unusedVariables false
set_option maxRecDepth 100000
set_option maxHeartbeats 4000000 in
theorem iu (f : Int) (hf : u9 f) (tT : List (List T)) (nt : Nat) (n : Nat) : ∀ (rest pre : List z1), n = pre.length + rest.length → n ≤ 1048576 → (∀ x ∈ rest, x.zV ≤ 1048576) →
 EV Tryz.prog pol (.loop 10 506 0 [.ptr 0 0 0, .ptr 1 0 0, .ptr 2 0 0, .t (.int .i64 (n : Int)), .t (.int .i64 (pre.length : Int))] [.vs 1 [[.t (.int .i64 f)]], .vs 2 [zG], .vs 2 [[.sl 3 0 nt none, .sl 4 0 n none]], .ts 1 tT, .vs 6 (ocE (z1.zi pre) ++ ocE (z1.zi rest))])
  = some (.loop (.exit 5) [.ptr 0 0 0, .ptr 1 0 0] [.vs 2 [zG], .vs 2 [[.sl 2 0 nt none, .sl 3 0 n none]], .ts 1 tT, .vs 6 (ocE (z1.zi (pre ++ rest.map (zU f))))])
 | [], pre, hn, hM, hb => by
  have c : decide ((pre.length : Int) < (n : Int)) = false := by simp at hn; apply decide_eq_false; omega
  obtain ⟨h1, h2, _⟩ := xb pre
  rw [List.map_nil, List.append_nil, show ocE (z1.zi []) = [] from rfl, List.append_nil]
  generalize ocE (z1.zi pre) = E0 at *
  simp only [zG]
  refine zk Tryz.func10 rfl rfl ?_
  simp (disch := ((try simp only [LL]); omega)) only [↓GO, ↓DRW, GA, GX, ren, zn, za, refs, z8, cst, zr, isC, bin, una, z7, zd, blt, asArg, zg, zc, zf, z6, E.mkS, unN, ze, zq, zb, GS, simprocAttr, zD, zE, yK, yD, yI, yH, yL, gh1, yC, yr, yw, zO, mkO, yx, yt, y7, yJ, zI, yB, yA, y9, oc, oTs, oT, zM, zM.rowTs, yv, isL, Bool.not_false, Bool.true_and, Bool.and_true, Bool.and_self, List.flatMap_append, List.map_append, List.set_cons_zero, List.set_cons_succ, GZ, c, h1, h2, zF]
 | x :: rest, pre, hn, hM, hb => by
  simp only [List.length_cons] at hn
  have c : decide ((pre.length : Int) < (n : Int)) = true := by apply decide_eq_true; omega
  have c0 : decide ((0 : Int) ≤ (pre.length : Int)) = true := by apply decide_eq_true; omega
  have c00 : (0 : Int) ≤ (pre.length : Int) := by omega
  have hpl : pre.length ≤ 1048576 := by omega
  have hPl : (ocE (z1.zi pre)).length = pre.length := by rw [zT, z1.zj]
  have IH := iu f hf tT nt n rest (pre ++ [zU f x]) (by simp; omega) hM (fun y hy => hb y (by simp [hy]))
  rw [wJ, show ocE (z1.zi [zU f x]) = [[V.t (.str x.name), .t (.str x.version), .t (.str (zU f x).source), .o (.list 2 (zy.zi (x.sums.filter (xm f)))), .t (.bool (zU f x).dev), .o (.list 1 (strs (zU f x).zz))]] from rfl, show ((pre ++ [zU f x]).length : Int) = (pre.length : Int) + 1 by simp, List.append_assoc, List.singleton_append, List.append_assoc, List.singleton_append] at IH
  rw [dS, List.map_cons]
  have hxb := hb x (by simp)
  obtain ⟨J, hJ, d1⟩ := c_osI f hf _ _ (xb pre) (xb rest) pre.length hPl x hxb x.sums.length rfl
  obtain ⟨hA1, hA2, _⟩ := xb pre
  obtain ⟨hB1, hB2, _⟩ := xb rest
  have hg := fun y => xJ (ocE (z1.zi pre)) (ocE (z1.zi rest)) y pre.length hPl
  have hs := fun y z => xw (ocE (z1.zi pre)) (ocE (z1.zi rest)) y z pre.length hPl
  have hf2 := xo x.sums
  have hs2 := zy.zj x.sums
  have hk2 : (zy.zi x.sums).take x.sums.length = zy.zi x.sums := List.take_of_length_le (by rw [hs2]; exact Nat.le_refl _)
  have hp1 : (zU f x).source = cond (f == 3 || f == 4) [] x.source := rfl
  have hp2 : (zU f x).dev = cond (f == 1 || f == 2 || f == 3) false x.dev := rfl
  have hp3 : (zU f x).zz = cond (f == 3 || f == 4) [] x.zz := rfl
  rw [hp1, hp2, hp3] at IH
  generalize (x.sums.filter (xm f)) = Z at *
  have hE : (zy.zi (Z ++ J)).take Z.length = zy.zi Z := by rw [kz, ← zy.zj Z]; simp
  have hEf := xo Z
  have hEl : (zy.zi (Z ++ J)).length = Z.length + J.length := by rw [zy.zj, List.length_append]
  have hZl : Z.length ≤ (zy.zi (Z ++ J)).length := by omega
  generalize ocE (z1.zi (pre ++ zU f x :: rest.map (zU f))) = R at *
  obtain ⟨name, version, source, sums, dev, zz⟩ := x
  simp only at IH d1 hf2 hs2 hk2 hJ ⊢
  generalize ocE (z1.zi pre) = P at *
  generalize ocE (z1.zi rest) = B at *
  clear hb hxb hPl hn hp1 hp2 hp3
  simp only [zG] at IH ⊢
  have hq : (zy.zi (Z ++ J)).length = Z.length ∧ zy.zi (Z ++ J) = zy.zi Z ∨ ((zy.zi (Z ++ J)).length = Z.length) = False := by
   by_cases hq : (zy.zi (Z ++ J)).length = Z.length
   · refine .inl ⟨hq, ?_⟩
     rw [List.eq_nil_of_length_eq_zero (show J.length = 0 by omega), List.append_nil]
   · exact .inr (eq_false hq)
  generalize zy.zi (Z ++ J) = E0 at *
  generalize zy.zi Z = E1 at *
  generalize zy.zi sums = es1 at *
  generalize pre.length = kl at *
  rcases hf with rfl | rfl | rfl | rfl | rfl <;> rcases hq with ⟨hq, rfl⟩ | hq <;> simp only [Int.reduceBEq, Bool.or_false, Bool.or_true, Bool.false_or, cond_true, cond_false, show strs [] = [] from rfl] at IH
  all_goals
   refine zk Tryz.func10 rfl rfl ?_
   simp (maxSteps := 1000000) (disch := ((try simp only [LL]); omega)) only [↓GO, ↓DRW, GA, GX, ren, zn, za, refs, z8, cst, zr, isC, bin, una, z7, zd, blt, asArg, zg, zc, zf, z6, E.mkS, unN, ze, zq, zb, GS, simprocAttr, zD, zE, yK, yD, yI, yH, yL, gh1, yC, yr, yw, zO, mkO, yx, yt, y7, yJ, zI, yB, yA, y9, oc, oTs, oT, zM, zM.rowTs, yv, isL, Bool.not_false, Bool.true_and, Bool.and_true, Bool.and_self, List.flatMap_append, List.map_append, List.set_cons_zero, List.set_cons_succ, GZ, c, c0, c00, if_true, Int.toNat_natCast, hg, hs, hf2, hs2, hk2, d1, hA1, hA2, hB1, hB2, hEf, hE, hq, hZl, false_and, if_false, and_self, bne, Bool.not_true, Bool.not_false, zo, zF, IH]
set_option maxHeartbeats 4000000 in
theorem Tp (f : Int) (tT : List (List T)) (nt : Nat) (cs : List z1) : ∀ (rest acc : List z1) (G : List (List V)) (cap : Option Nat), noR G → G.length + rest.length = cs.length → cs.length ≤ 1048576 → acc.length ≤ G.length → ∃ G' cap', noR G' ∧
 EV Tryz.prog pol (.loop 10 503786 0 [.ptr 0 0 0, .ptr 1 0 0, .ptr 2 0 0, .sl 3 0 acc.length cap, .sl 4 0 cs.length none, .t (.int .i64 (cs.length : Int)), .t (.int .i64 (G.length : Int))] [.vs 1 [[.t (.int .i64 f)]], .vs 2 [zG], .vs 2 [[.sl 5 0 nt none, .sl 4 0 cs.length none]], .vs 6 (ocE (z1.zi acc)), .vs 6 (G ++ ocE (z1.zi rest)), .ts 1 tT])
  = some (.loop (.exit 3) [.ptr 0 0 0, .ptr 1 0 0, .ptr 2 0 0, .sl 3 0 (wq acc rest).length cap'] [.vs 1 [[.t (.int .i64 f)]], .vs 2 [zG], .vs 2 [[.sl 4 0 nt none, .sl 5 0 cs.length none]], .vs 6 (ocE (z1.zi (wq acc rest))), .ts 1 tT, .vs 6 G'])
 | [], acc, G, cap, hG, hn, hM, hag => by
  have c : decide ((G.length : Int) < (cs.length : Int)) = false := by simp at hn; apply decide_eq_false; omega
  refine ⟨G, cap, hG, ?_⟩
  obtain ⟨h1, h2, _⟩ := hG
  obtain ⟨h3, h4, _⟩ := xb acc
  rw [show ocE (z1.zi []) = [] from rfl, List.append_nil, wq]
  generalize ocE (z1.zi acc) = E0 at *
  generalize G.length = gl at *
  simp only [zG]
  refine zk Tryz.func10 rfl rfl ?_
  simp (disch := ((try simp only [LL]); omega)) only [↓GO, ↓DRW, GA, GX, ren, zn, za, refs, z8, cst, zr, isC, bin, una, z7, zd, blt, asArg, zg, zc, zf, z6, E.mkS, unN, ze, zq, zb, GS, simprocAttr, zD, zE, yK, yD, yI, yH, yL, gh1, yC, yr, yw, zO, mkO, yx, yt, y7, yJ, zI, yB, yA, y9, oc, oTs, oT, zM, zM.rowTs, yv, isL, Bool.not_false, Bool.true_and, Bool.and_true, Bool.and_self, List.flatMap_append, List.map_append, List.set_cons_zero, List.set_cons_succ, GZ, c, h1, h2, h3, h4, zF]
 | x :: rest, acc, G, cap, hG, hn, hM, hag => by
  simp only [List.length_cons] at hn
  have c : decide ((G.length : Int) < (cs.length : Int)) = true := by apply decide_eq_true; omega
  have c0 : decide ((0 : Int) ≤ (G.length : Int)) = true := by apply decide_eq_true; omega
  have c00 : (0 : Int) ≤ (G.length : Int) := by omega
  have hgl : G.length ≤ 1048576 := by omega
  have d1 := gY 55 [.fp x.enc] (xW x) acc (by omega) (fun y _ => c_pj4 x y)
  have hAl : (ocE (z1.zi acc)).length = acc.length := by rw [zT, z1.zj]
  have hAt : (ocE (z1.zi acc)).take acc.length = ocE (z1.zi acc) := List.take_of_length_le (by omega)
  have hAf := uf acc
  have hsn := fun h => wI h (z1.zi acc)
  rw [dS, wq]
  obtain ⟨hA1, hA2, _⟩ := xb acc
  obtain ⟨hB1, hB2, _⟩ := xb rest
  have hg := fun y => xJ G (ocE (z1.zi rest)) y G.length rfl
  have hs := fun y z => xw G (ocE (z1.zi rest)) y z G.length rfl
  have hf1 := xo x.sums
  have hf2 := yp x.zz
  have hs1 := zy.zj x.sums
  have hs2 := zh x.zz
  have hk1 : (zy.zi x.sums).take x.sums.length = zy.zi x.sums := List.take_of_length_le (by omega)
  have hk2 : (strs x.zz).take x.zz.length = strs x.zz := List.take_of_length_le (by omega)
  cases q : acc.any (xW x) with
  | true =>
   rw [q] at d1
   obtain ⟨G', cap', hG', IH⟩ := Tp f tT nt cs rest acc (G ++ [fgP x]) cap (xH hG (oC x)) (by simp; omega) hM (by simp; omega)
   rw [show ((G ++ [fgP x]).length : Int) = (G.length : Int) + 1 by simp, List.append_assoc, List.singleton_append] at IH
   refine ⟨G', cap', hG', ?_⟩
   rw [cond_true]
   obtain ⟨a0, y, rfl⟩ : ∃ a0 y, acc = a0 ++ [y] := by
    rcases wa acc with rfl | ⟨a0, y, rfl⟩
    · cases q
    · exact ⟨a0, y, rfl⟩
   have hlast : (ocE (z1.zi (a0 ++ [y])))[(a0 ++ [y]).length - 1]? = some (y.enc.map oc) := by
    rw [wJ]
    simp [zT, z1.zj, ocE, z1.zi]
   have hl0 : ((a0 ++ [y]).length = 0) = False := by simp
   obtain ⟨hG1, hG2, _⟩ := hG
   generalize ocE (z1.zi (wq (a0 ++ [y]) rest)) = R at *
   generalize (wq (a0 ++ [y]) rest).length = rl at *
   generalize ocE (z1.zi (a0 ++ [y])) = P at *
   generalize (a0 ++ [y]).length = al at *
   generalize ocE (z1.zi rest) = B at *
   obtain ⟨name, version, source, sums, dev, zz⟩ := x
   obtain ⟨name', version', source', sums', dev', needs'⟩ := y
   simp only [fgP, z1.enc, List.map_cons, List.map_nil, zG, oc] at d1 IH hf1 hf2 hs1 hs2 hk1 hk2 hlast ⊢
   generalize zy.zi sums = es1 at *
   generalize strs zz = es2 at *
   clear hn
   generalize G.length = gl at *
   refine zk Tryz.func10 rfl rfl ?_
   simp (maxSteps := 1000000) (disch := ((try simp only [LL]); omega)) only [↓GO, ↓DRW, GA, GX, ren, zn, za, refs, z8, cst, zr, isC, bin, una, z7, zd, blt, asArg, zg, zc, zf, z6, E.mkS, unN, ze, zq, zb, GS, simprocAttr, zD, zE, yK, yD, yI, yH, yL, gh1, yC, yr, yw, zO, mkO, yx, yt, y7, yJ, zI, yB, yA, y9, oc, oTs, oT, zM, zM.rowTs, yv, isL, Bool.not_false, Bool.true_and, Bool.and_true, Bool.and_self, List.flatMap_append, List.map_append, List.set_cons_zero, List.set_cons_succ, GZ, c, c0, c00, if_true, if_false, Int.toNat_natCast, Nat.zero_add, hg, hs, hf1, hf2, hs1, hs2, hk1, hk2, d1, hA1, hA2, hB1, hB2, hG1, hG2, hAt, hAf, hlast, hl0, hsn, wD, Bool.not_true, zo, zF, IH]
  | false =>
   rw [q] at d1
   obtain ⟨G', cap', hG', IH⟩ := Tp f tT nt cs rest (acc ++ [x]) (G ++ [fgP x]) none (xH hG (oC x)) (by simp; omega) hM (by simp; omega)
   rw [show ((G ++ [fgP x]).length : Int) = (G.length : Int) + 1 by simp, List.append_assoc, List.singleton_append, wJ, show ocE (z1.zi [x]) = [[V.t (.str x.name), .t (.str x.version), .t (.str x.source), .o (.list 2 (zy.zi x.sums)), .t (.bool x.dev), .o (.list 1 (strs x.zz))]] from rfl, List.length_append, List.length_singleton] at IH
   refine ⟨G', cap', hG', ?_⟩
   rw [cond_false]
   obtain ⟨hG1, hG2, _⟩ := hG
   have hlg := fun y => xJ (ocE (z1.zi acc)) [] y acc.length hAl
   have hls := fun y z => xw (ocE (z1.zi acc)) [] y z acc.length hAl
   have hal1 : acc.length + 1 - 1 = acc.length := by omega
   have hal0 : (acc.length + 1 = 0) = False := by simp
   have hle : ∀ y : List V, (ocE (z1.zi acc) ++ [y]).length = acc.length + 1 := fun y => by simp [hAl]
   have haM : acc.length ≤ 1048576 := by omega
   generalize ocE (z1.zi (wq (acc ++ [x]) rest)) = R at *
   generalize (wq (acc ++ [x]) rest).length = rl at *
   generalize ocE (z1.zi acc) = P at *
   generalize acc.length = al at *
   generalize ocE (z1.zi rest) = B at *
   obtain ⟨name, version, source, sums, dev, zz⟩ := x
   simp only [fgP, z1.enc, List.map_cons, List.map_nil, zG] at d1 IH hf1 hf2 hs1 hs2 hk1 hk2 ⊢
   generalize zy.zi sums = es1 at *
   generalize strs zz = es2 at *
   clear hn hag
   generalize G.length = gl at *
   refine zk Tryz.func10 rfl rfl ?_
   simp (maxSteps := 1000000) (disch := ((try simp only [LL]); omega)) only [↓GO, ↓DRW, GA, GX, ren, zn, za, refs, z8, cst, zr, isC, bin, una, z7, zd, blt, asArg, zg, zc, zf, z6, E.mkS, unN, ze, zq, zb, GS, simprocAttr, zD, zE, yK, yD, yI, yH, yL, gh1, yC, yr, yw, zO, mkO, yx, yt, y7, yJ, zI, yB, yA, y9, oc, oTs, oT, zM, zM.rowTs, yv, isL, Bool.not_false, Bool.true_and, Bool.and_true, Bool.and_self, List.flatMap_append, List.map_append, List.set_cons_zero, List.set_cons_succ, GZ, c, c0, c00, if_true, if_false, Int.toNat_natCast, Nat.zero_add, hg, hs, hf1, hf2, hs1, hs2, hk1, hk2, d1, hA1, hA2, hB1, hB2, hG1, hG2, hAt, hAf, hAl, hlg, hls, hal1, hal0, hle, hsn, wD, Bool.not_false, zo, zF, IH, yY]
end Go.Proofs.YtonbkdklidfmfaaGreatDoor
/- Project, the program's way. Conditions: those of each lemma. -/
namespace Go.Proofs.YtonbkdklidfmfaaGreatDoor
open E
set_option linter.unusedSimpArgs false
set_option linter.unusedVariables false
set_option maxRecDepth 100000
/-- what Project comes to -/
def xL (f : Int) (g : zx) : zx := cond (vi f && y6 g) (vN f g) g
def lS (top : List Str) (cs : List z1) (v : V) (hs : Heap) : Prop :=
 EV Tryz.prog pol (.callO false 45 [.agg [.t (.list 1 (strs top)), .t (.list 6 (z1.zi cs))]] []) = some (.call (.agg [.sl 0 0 top.length none, v]) (.ts 1 (strs top) :: hs))
theorem sV (top : List Str) (cs : List z1) (hkl : top.length ≤ 1048576) (hl : cs.length ≤ 1048576) (hb : ∀ c ∈ cs, c.zV ≤ 1048576) : (lS top cs (.nil 6) [] ∧ cs = []) ∨ lS top cs (.sl 1 0 cs.length none) [.vs 6 (ocE (z1.zi cs))] := by
 cases cs with
 | nil => exact .inl ⟨mR top hkl, rfl⟩
 | cons x r => exact .inr (ns top x r hkl hl hb)
theorem TX (top : List Str) (cs : List z1) (hB : GB ⟨top, cs⟩) (ho : y6 ⟨top, cs⟩ = true) :
 EV Tryz.prog pol (.callO false 25 [.agg [.t (.list 1 (strs top)), .t (.list 6 (z1.zi cs))]] []) = some (.call (.agg [.sl 0 0 top.length none, .sl 1 0 (xg (yc cs top) cs).length none]) [.ts 1 (strs top), .vs 6 (ocE (z1.zi (xg (yc cs top) cs)))]) := by
 cases cs with
 | nil => exact YZ top hB ho
 | cons x r => exact cO top x r hB ho
def PjI (f : Int) (g : zx) : Prop :=
 EV Tryz.prog pol (.callO false 10 [.t (.int .i64 f), .agg [.t (.list 1 (strs g.top)), .t (.list 6 (z1.zi g.packs))]] []) = some (.call (.agg [.sl 0 0 (xL f g).top.length none, .sl 1 0 (xL f g).packs.length none]) [.ts 1 (strs (xL f g).top), .vs 6 (ocE (z1.zi (xL f g).packs))])
set_option maxHeartbeats 4000000 in
theorem Vi (f : Int) (top : List Str) (cs : List z1) (hB : GB ⟨top, cs⟩) (h : (vi f && y6 ⟨top, cs⟩) = false) : PjI f ⟨top, cs⟩ := by
 have hb := hB.len
 simp only at hb
 have hcp := sV top cs (by omega) (by omega) hb.2.2
 have d0 := wM f 0 4
 rw [show B2 f 0 4 = vi f from rfl] at d0
 have d1 := uT _ hB
 have e : xL f ⟨top, cs⟩ = ⟨top, cs⟩ := by unfold xL; rw [h]; rfl
 unfold PjI
 rw [e]
 have hot : vk (ocE (z1.zi cs)) = some (z1.zi cs) := uq cs
 have hoc : (z1.zi cs).map (fun e => e.map oc) = ocE (z1.zi cs) := rfl
 simp only [zx.enc, List.map_cons, List.map_nil] at d1 ⊢
 clear hB hb e
 unfold lS at hcp
 cases q : vi f with
 | false =>
  rw [q] at d0
  rcases hcp with ⟨hcp, rfl⟩ | hcp
  all_goals
   try simp only [show z1.zi [] = [] from rfl, show ocE [] = [] from rfl, List.length_nil] at *
   refine zN Tryz.func10 rfl (by kernel_rfl) ?_
   unfold Tryz.f10
   simp (disch := ((try simp only [LL]); omega)) only [↓GO, ↓DRW, GA, GX, ren, zn, za, refs, z8, cst, zr, isC, bin, una, z7, zd, blt, asArg, zg, zc, zf, z6, E.mkS, unN, ze, zq, zb, GS, simprocAttr, zD, zE, yK, yD, yI, yH, yL, gh1, yC, yr, yw, zO, mkO, yx, yt, y7, yJ, zI, yB, yA, y9, oc, oTs, oT, zM, zM.rowTs, yv, isL, Bool.not_false, Bool.true_and, Bool.and_true, Bool.and_self, List.flatMap_append, List.map_append, List.set_cons_zero, List.set_cons_succ, GZ, hcp, d0, hot, hoc, zZ, zR, zT, z1.zj, List.drop_zero, Bool.not_false, vk, zF]
 | true =>
  rw [q, Bool.true_and] at h
  rw [q] at d0
  rw [h] at d1
  rcases hcp with ⟨hcp, rfl⟩ | hcp
  all_goals
   try simp only [show z1.zi [] = [] from rfl, show ocE [] = [] from rfl, List.length_nil] at *
   refine zN Tryz.func10 rfl (by kernel_rfl) ?_
   unfold Tryz.f10
   simp (disch := ((try simp only [LL]); omega)) only [↓GO, ↓DRW, GA, GX, ren, zn, za, refs, z8, cst, zr, isC, bin, una, z7, zd, blt, asArg, zg, zc, zf, z6, E.mkS, unN, ze, zq, zb, GS, simprocAttr, zD, zE, yK, yD, yI, yH, yL, gh1, yC, yr, yw, zO, mkO, yx, yt, y7, yJ, zI, yB, yA, y9, oc, oTs, oT, zM, zM.rowTs, yv, isL, Bool.not_false, Bool.true_and, Bool.and_true, Bool.and_self, List.flatMap_append, List.map_append, List.set_cons_zero, List.set_cons_succ, GZ, hcp, d0, d1, hot, hoc, zZ, zR, zT, z1.zj, List.drop_zero, false_and, if_false, Bool.not_false, Bool.not_true, vk, zF]
theorem V1 (p : z1 → Bool) (l : List z1) : (l.filter fun x => !(!p x)) = l.filter p := by
 congr 1
 funext x
 rw [Bool.not_not]
/-- a row that is longer than its slice, or as long -/
theorem rowX {Z : List z1} {J : List (List V)} : ((ocE (z1.zi Z) ++ J).length = Z.length ∧ ocE (z1.zi Z) ++ J = ocE (z1.zi Z)) ∨ ((ocE (z1.zi Z) ++ J).length = Z.length) = False := by
 by_cases hq : (ocE (z1.zi Z) ++ J).length = Z.length
 · refine .inl ⟨hq, ?_⟩
   rw [List.length_append, zT, z1.zj] at hq
   rw [List.eq_nil_of_length_eq_zero (show J.length = 0 by omega), List.append_nil]
 · exact .inr (eq_false hq)
theorem rowXs {Z J : List Str} : ((strs (Z ++ J)).length = Z.length ∧ strs (Z ++ J) = strs Z) ∨ ((strs (Z ++ J)).length = Z.length) = False := by
 by_cases hq : (strs (Z ++ J)).length = Z.length
 · refine .inl ⟨hq, ?_⟩
   rw [zh, List.length_append] at hq
   rw [List.eq_nil_of_length_eq_zero (show J.length = 0 by omega), List.append_nil]
 · exact .inr (eq_false hq)
theorem cE (ks : List Str) (cs : List z1) : (xg ks cs).length ≤ cs.length := List.length_filter_le _ _
theorem YJ (ks : List Str) (cs : List z1) : ∀ x ∈ xg ks cs, x ∈ cs := fun x hx => (List.mem_filter.1 hx).1
set_option maxHeartbeats 8000000 in
theorem dG (f : Int) (hf : f = 0 ∨ f = 1) (top : List Str) (cs : List z1) (hB : GB ⟨top, cs⟩) (ho : y6 ⟨top, cs⟩ = true) : PjI f ⟨top, cs⟩ := by
 have hb := hB.len
 simp only at hb
 have hcp := sV top cs (by omega) (by omega) hb.2.2
 have hfo : u9 f := by unfold u9; omega
 have hfi : vi f = true := by rcases hf with rfl | rfl <;> rfl
 have d0 := wM f 0 4
 rw [show B2 f 0 4 = vi f from rfl, hfi] at d0
 have d1 := uT _ hB
 rw [ho] at d1
 have d2 := TX top cs hB ho
 have e : xL f ⟨top, cs⟩ = vN f ⟨top, cs⟩ := by unfold xL; rw [hfi, ho]; rfl
 unfold PjI
 rw [e]
 have hot := uq
 have hoc : ∀ l : List z1, (z1.zi l).map (fun e => e.map oc) = ocE (z1.zi l) := fun _ => rfl
 have L0 := iu 0 (.inl rfl) (strs top) top.length (xg (yc cs top) cs).length (xg (yc cs top) cs) [] (by simp) (by have := cE (yc cs top) cs; omega) fun x hx => hb.2.2 x (YJ _ _ x hx)
 have L1 := iu 1 (.inr (.inl rfl)) [] 0 cs.length cs [] (by simp) (by omega) hb.2.2
 simp only [List.length_nil, Int.natCast_zero, List.nil_append, show z1.zi [] = [] from rfl, show ocE [] = [] from rfl, zG] at L0 L1
 have f1 := yp top
 simp only [zx.enc, List.map_cons, List.map_nil] at d1 ⊢
 clear hB hb e hfi hfo
 unfold lS at hcp
 rcases hf with rfl | rfl
 · rw [show (vN 0 ⟨top, cs⟩) = ⟨top, (xg (yc cs top) cs).map (zU 0)⟩ from rfl]
   have hZl : ((xg (yc cs top) cs).map (zU 0)).length = (xg (yc cs top) cs).length := by simp
   rcases hcp with ⟨hcp, rfl⟩ | hcp
   all_goals
    generalize xg (yc _ top) _ = Z at *
    rw [hZl]
    generalize Z.map (zU 0) = Z' at *
    try simp only [show z1.zi [] = [] from rfl, show ocE [] = [] from rfl, List.length_nil] at hcp d1 d2 ⊢
    refine zN Tryz.func10 rfl (by kernel_rfl) ?_
    unfold Tryz.f10
    simp (maxSteps := 1000000) (disch := ((try simp only [LL]); omega)) only [↓GO, ↓DRW, GA, GX, ren, zn, za, refs, z8, cst, zr, isC, bin, una, z7, zd, blt, asArg, zg, zc, zf, z6, E.mkS, unN, ze, zq, zb, GS, simprocAttr, zD, zE, yK, yD, yI, yH, yL, gh1, yC, yr, yw, zO, mkO, yx, yt, y7, yJ, zI, yB, yA, y9, oc, oTs, oT, zM, zM.rowTs, yv, isL, Bool.not_false, Bool.true_and, Bool.and_true, Bool.and_self, List.flatMap_append, List.map_append, List.set_cons_zero, List.set_cons_succ, GZ, hcp, d0, d1, d2, L0, hot, hoc, f1, zh, zZ, zR, zT, z1.zj, List.drop_zero, false_and, if_false, Bool.not_false, Bool.not_true, vk, zF]
 · rw [show (vN 1 ⟨top, cs⟩) = ⟨[], cs.map (zU 1)⟩ from rfl]
   have hZl : (cs.map (zU 1)).length = cs.length := by simp
   rw [hZl]
   generalize cs.map (zU 1) = Z' at *
   clear hZl
   rcases hcp with ⟨hcp, rfl⟩ | hcp
   all_goals
    try simp only [show z1.zi [] = [] from rfl, show ocE [] = [] from rfl, show strs [] = [] from rfl, List.length_nil, Int.natCast_zero] at hcp d1 L1 ⊢
    refine zN Tryz.func10 rfl (by kernel_rfl) ?_
    unfold Tryz.f10
    simp (maxSteps := 1000000) (disch := ((try simp only [LL]); omega)) only [↓GO, ↓DRW, GA, GX, ren, zn, za, refs, z8, cst, zr, isC, bin, una, z7, zd, blt, asArg, zg, zc, zf, z6, E.mkS, unN, ze, zq, zb, GS, simprocAttr, zD, zE, yK, yD, yI, yH, yL, gh1, yC, yr, yw, zO, mkO, yx, yt, y7, yJ, zI, yB, yA, y9, oc, oTs, oT, zM, zM.rowTs, yv, isL, Bool.not_false, Bool.true_and, Bool.and_true, Bool.and_self, List.flatMap_append, List.map_append, List.set_cons_zero, List.set_cons_succ, GZ, hcp, d0, d1, L1, hot, hoc, f1, zh, zZ, zR, zT, z1.zj, List.drop_zero, false_and, if_false, Bool.not_false, Bool.not_true, vk, vO, List.all_nil, bne, zF]
end Go.Proofs.YtonbkdklidfmfaaGreatDoor

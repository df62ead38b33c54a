/- Joined: G4 V8 V4 V9 K20 V10 V12 D1 E20 K28 V15 I2 K7 K8 K9 V11 K25. Conditions: those of each lemma. -/
import Derived.Test.YtijninlbpifonaaGreatDoorZJ
import Derived.Test.YtijninlbpifonaaGreatDoorZK
import Derived.Test.YtijninlbpifonaaGreatDoorZG
import GoSem.Step
import Derived.Calls
import Derived.Test.YtijninlbpifonaaGreatDoorZF
import Derived.Shelf.SlSortCmp.NoneTotal
import Derived.Lib.SortBridge
import Derived.Test.YtijninlbpifonaaGreatDoorZI
set_option linter.unusedVariables false
set_option linter.unusedSimpArgs false
namespace Go.Proofs.YtijninlbpifonaaGreatDoor
open E
set_option linter.unusedSimpArgs false
set_option linter.unusedVariables false
set_option maxRecDepth 100000
theorem oQ (cs : List zy) (hl : cs.length ≤ 9223372036854775807) (hc : ∀ c ∈ cs, lJ c) : ∀ (d i : Nat) (n : Int), cs.length - i = d → i ≤ cs.length → 0 ≤ n → n ≤ 1048576 →
 (0 ≤ n - (zy.ya (cs.drop i) : Int) → EV Tryz.prog pol (.loop 16 122 0 [.t (.list 3 (zy.yb cs)), .t (.int .i64 n), .t (.int .i64 (i : Int))] []) = some (.loop (.exit 0) [.t (.int .i64 (n - (zy.ya (cs.drop i) : Int))), .bad] [])) ∧
 (n - (zy.ya (cs.drop i) : Int) < 0 → ∃ v, EV Tryz.prog pol (.loop 16 122 0 [.t (.list 3 (zy.yb cs)), .t (.int .i64 n), .t (.int .i64 (i : Int))] []) = some (.loop .ret [v, .t (.int .i64 (-1))] []))
 | 0, i, n, hd, hi, h0, h1 => by
  have hi' : i = cs.length := by omega
  subst hi'
  have hb : zy.ya (cs.drop cs.length) = 0 := by simp [zy.ya]
  rw [hb]
  refine ⟨fun _ => ?_, fun h => by omega⟩
  refine zD Tryz.func16 rfl rfl ?_
  have c : decide (((cs.length : Nat) : Int) < ((cs.length : Nat) : Int)) = false := by simp
  simp only [↓GO, ↓DRW, GA, ren, zG, zd, refs, zb, cst, zl, zM, z7, E.load, E.store, zL, isC, bin, zN, zO, una, z8, za, zh, zP, blt, fnV, asArg, ze, zn, zo, zj, zm, zg, zk, zu, z6, zK, zJ, E.mkS, zc, unN, zQ, zi, zw, zq, zC, zI, zf, zR, zr, GS, simprocAttr, zy.zY, c]
  simp
 | d + 1, i, n, hd, hi, h0, h1 => by
  have hlt : i < cs.length := by omega
  rw [zy.xj cs i hlt]
  have c : decide ((i : Int) < ((cs.length : Nat) : Int)) = true := by simp; omega
  have hcall := hc _ (List.getElem_mem hlt) n h0 h1
  have hget := zy.yW cs i hlt
  generalize hci : cs[i] = ci at hcall hget
  obtain ⟨name, range, text⟩ := ci
  simp only [zy.enc, List.map_cons, List.map_nil] at hcall hget
  generalize hbu : (zy.mk name range text).yp = bu at hcall
  have IH := oQ cs hl hc d (i + 1) (n - (bu : Int)) (by omega) (by omega)
  have e1 : (i : Int) + 1 = ((i + 1 : Nat) : Int) := by omega
  by_cases hneg : n - (bu : Int) < 0
  · refine ⟨fun h => by omega, fun _ => ⟨.t (.int .i64 (-1)), ?_⟩⟩
    refine zD Tryz.func16 rfl rfl ?_
    have hle : left n bu = -1 := if_pos hneg
    rw [hle] at hcall
    simp (disch := omega) only [↓GO, ↓DRW, GA, ren, zG, zd, refs, zb, cst, zl, zM, z7, E.load, E.store, zL, isC, bin, zN, zO, una, z8, za, zh, zP, blt, fnV, asArg, ze, zn, zo, zj, zm, zg, zk, zu, z6, zK, zJ, E.mkS, zc, unN, zQ, zi, zw, zq, zC, zI, zf, zR, zr, GS, simprocAttr, zy.zY, c, hget, zB, hcall]
  · have hle : left n bu = n - (bu : Int) := if_neg hneg
    rw [hle] at hcall
    have c2 : decide (n - (bu : Int) < 0) = false := by simpa using hneg
    obtain ⟨I1, I2⟩ := IH (by omega) (by omega)
    refine ⟨fun h => ?_, fun h => ?_⟩
    · refine zD Tryz.func16 rfl rfl ?_
      simp (disch := omega) only [↓GO, ↓DRW, GA, ren, zG, zd, refs, zb, cst, zl, zM, z7, E.load, E.store, zL, isC, bin, zN, zO, una, z8, za, zh, zP, blt, fnV, asArg, ze, zn, zo, zj, zm, zg, zk, zu, z6, zK, zJ, E.mkS, zc, unN, zQ, zi, zw, zq, zC, zI, zf, zR, zr, GS, simprocAttr, zy.zY, c, hget, zB, hcall, c2, e1]
      rw [I1 (by omega), show n - (bu : Int) - (zy.ya (cs.drop (i + 1)) : Int) = n - ((bu + zy.ya (cs.drop (i + 1)) : Nat) : Int) by omega]
    · obtain ⟨v, hv⟩ := I2 (by omega)
      refine ⟨v, ?_⟩
      refine zD Tryz.func16 rfl rfl ?_
      simp (disch := omega) only [↓GO, ↓DRW, GA, ren, zG, zd, refs, zb, cst, zl, zM, z7, E.load, E.store, zL, isC, bin, zN, zO, una, z8, za, zh, zP, blt, fnV, asArg, ze, zn, zo, zj, zm, zg, zk, zu, z6, zK, zJ, E.mkS, zc, unN, zQ, zi, zw, zq, zC, zI, zf, zR, zr, GS, simprocAttr, zy.zY, c, hget, zB, hcall, c2, e1]
      exact hv
theorem si (cs : List zy) (hl : cs.length ≤ 9223372036854775807) (hc : ∀ c ∈ cs, lJ c) (n : Int) (h0 : 0 ≤ n) (h1 : n ≤ 1048576) :
 zE (EV Tryz.prog pol) 16 [.t (.list 3 (zy.yb cs)), .t (.int .i64 n)] = some (.t (.int .i64 (left n (cs.length + zy.ya cs)))) := by
 apply zz
 refine zA rfl Tryz.func16 rfl (by kernel_rfl) ?_
 unfold Tryz.f16
 by_cases hneg : n - (cs.length : Int) < 0
 · have c2 : decide (n - (cs.length : Int) < 0) = true := by simpa using hneg
   simp (disch := omega) only [↓GO, ↓DRW, GA, ren, zG, zd, refs, zb, cst, zl, zM, z7, E.load, E.store, zL, isC, bin, zN, zO, una, z8, za, zh, zP, blt, fnV, asArg, ze, zn, zo, zj, zm, zg, zk, zu, z6, zK, zJ, E.mkS, zc, unN, zQ, zi, zw, zq, zC, zI, zf, zR, zr, GS, simprocAttr, zy.zY, zB, c2]
   rw [left, if_pos (by omega)]
 · have c2 : decide (n - (cs.length : Int) < 0) = false := by simpa using hneg
   obtain ⟨I1, I2⟩ := oQ cs hl hc cs.length 0 (n - (cs.length : Int)) (by omega) (by omega) (by omega) (by omega)
   simp only [List.drop_zero, Int.natCast_zero] at I1 I2
   by_cases hn2 : n - (cs.length : Int) - (zy.ya cs : Int) < 0
   · obtain ⟨v, hv⟩ := I2 hn2
     simp (disch := omega) only [↓GO, ↓DRW, GA, ren, zG, zd, refs, zb, cst, zl, zM, z7, E.load, E.store, zL, isC, bin, zN, zO, una, z8, za, zh, zP, blt, fnV, asArg, ze, zn, zo, zj, zm, zg, zk, zu, z6, zK, zJ, E.mkS, zc, unN, zQ, zi, zw, zq, zC, zI, zf, zR, zr, GS, simprocAttr, zy.zY, zB, c2, hv]
     rw [left, if_pos (by omega)]
   · simp (disch := omega) only [↓GO, ↓DRW, GA, ren, zG, zd, refs, zb, cst, zl, zM, z7, E.load, E.store, zL, isC, bin, zN, zO, una, z8, za, zh, zP, blt, fnV, asArg, ze, zn, zo, zj, zm, zg, zk, zu, z6, zK, zJ, E.mkS, zc, unN, zQ, zi, zw, zq, zC, zI, zf, zR, zr, GS, simprocAttr, zy.zY, zB, c2, I1 (by omega)]
     rw [left, if_neg (by omega), show n - (cs.length : Int) - (zy.ya cs : Int) = n - ((cs.length + zy.ya cs : Nat) : Int) by omega]
def r8 : List T := [.str [], .str [], .str []]
theorem oO (cs : List zy) (hl : cs.length ≤ 1048576) (hc : ∀ c ∈ cs, sE c) : ∀ (d i : Nat), cs.length - i = d → i ≤ cs.length →
 EV Tryz.prog pol (.loop 20 58 0 [.t (.list 3 (zy.yb cs)), .sl 0 0 cs.length (some cs.length), .t (.int .i64 (i : Int))] [.ts 3 (wj (zy.yb cs) r8 i)]) = some (.loop (.exit 0) [.sl 0 0 cs.length (some cs.length)] [.ts 3 (zy.yb cs)])
 | 0, i, hd, hi => by
  have hi' : i = cs.length := by omega
  subst hi'
  refine zD Tryz.func20 rfl rfl ?_
  have c : decide (((cs.length : Nat) : Int) < ((cs.length : Nat) : Int)) = false := by simp
  have hf : wj (zy.yb cs) r8 cs.length = zy.yb cs := by rw [← zy.zY cs]; exact pY _ _
  simp only [↓GO, ↓DRW, GA, ren, zG, zd, refs, zb, cst, zl, zM, z7, E.load, E.store, zL, isC, bin, zN, zO, una, z8, za, zh, zP, blt, fnV, asArg, ze, zn, zo, zj, zm, zg, zk, zu, z6, zK, zJ, E.mkS, zc, unN, zQ, zi, zw, zq, zC, zI, zf, zR, zr, GS, simprocAttr, zy.zY, c, hf]
 | d + 1, i, hd, hi => by
  have hlt : i < cs.length := by omega
  have hlt' : i < (zy.yb cs).length := by rw [zy.zY]; exact hlt
  have c : decide ((i : Int) < ((cs.length : Nat) : Int)) = true := by simp; omega
  have c0 : decide ((0 : Int) ≤ (i : Int)) = true := by simp
  have IH := oO cs hl hc d (i + 1) (by omega) (by omega)
  have e1 : (i : Int) + 1 = ((i + 1 : Nat) : Int) := by omega
  have hg : (wj (zy.yb cs) r8 i)[i]? = some [.str [], .str [], .str []] := pX (zy.yb cs) r8 i hlt'
  have hs := pW (zy.yb cs) r8 i hlt'
  have hx : (zy.yb cs)[i] = cs[i].enc := by simp [zy.yb]
  rw [hx] at hs
  have hcall := hc _ (List.getElem_mem hlt)
  have hget := zy.yW cs i hlt
  generalize hci : cs[i] = ci at hcall hget hs
  obtain ⟨name, range, text⟩ := ci
  simp only [sE, zy.enc, List.map_cons, List.map_nil] at hcall hget hs
  refine zD Tryz.func20 rfl rfl ?_
  simp (disch := omega) only [↓GO, ↓DRW, GA, ren, zG, zd, refs, zb, cst, zl, zM, z7, E.load, E.store, zL, isC, bin, zN, zO, una, z8, za, zh, zP, blt, fnV, asArg, ze, zn, zo, zj, zm, zg, zk, zu, z6, zK, zJ, E.mkS, zc, unN, zQ, zi, zw, zq, zC, zI, zf, zR, zr, GS, simprocAttr, zy.zY, c, c0, hget, zB, e1, hg, Int.toNat_natCast, hcall, hs]
  exact IH
theorem gX (cs : List zy) (hl : cs.length ≤ 1048576) (hc : ∀ c ∈ cs, sE c) : zE (EV Tryz.prog pol) 20 [.t (.list 3 (zy.yb cs))] = some (.t (.list 3 (zy.yb cs))) := by
 apply zz
 refine zA rfl Tryz.func20 rfl (by kernel_rfl) ?_
 unfold Tryz.f20
 have h1 : ¬ ((cs.length : Int) < 0) := by omega
 have h2 : ¬ (cs.length * 48 > 140737488355328) := by omega
 have h3 : ¬ (cs.length > 140737488355328) := by omega
 have hz : List.replicate cs.length [T.str [], .str [], .str []] = wj (zy.yb cs) r8 0 := by rw [tB, zy.zY]; rfl
 have IH := oO cs hl hc cs.length 0 (by omega) (by omega)
 simp only [Int.natCast_zero] at IH
 have ht : (zy.yb cs).take cs.length = zy.yb cs := by rw [← zy.zY cs]; simp
 simp (disch := omega) only [↓GO, ↓DRW, GA, ren, zG, zd, refs, zb, cst, zl, zM, z7, E.load, E.store, zL, isC, bin, zN, zO, una, z8, za, zh, zP, blt, fnV, asArg, ze, zn, zo, zj, zm, zg, zk, zu, z6, zK, zJ, E.mkS, zc, unN, zQ, zi, zw, zq, zC, zI, zf, zR, zr, GS, simprocAttr, zy.zY, Int.toNat_natCast, h1, h2, h3, hz, IH, ne_eq, not_true_eq_false, ht]
theorem oS (cs : List zy) (hl : cs.length ≤ 1048576) (hc : ∀ c ∈ cs, sF c) : ∀ (d i : Nat), cs.length - i = d → i ≤ cs.length →
 EV Tryz.prog pol (.loop 24 58 0 [.t (.list 3 (zy.yb cs)), .t (.list 3 (zy.yb cs)), .t (.int .i64 (i : Int))] []) = some (.loop (.exit 0) [.bad] [])
 | 0, i, hd, hi => by
  have hi' : i = cs.length := by omega
  subst hi'
  refine zD Tryz.func24 rfl rfl ?_
  have c : decide (((cs.length : Nat) : Int) < ((cs.length : Nat) : Int)) = false := by simp
  simp only [↓GO, ↓DRW, GA, ren, zG, zd, refs, zb, cst, zl, zM, z7, E.load, E.store, zL, isC, bin, zN, zO, una, z8, za, zh, zP, blt, fnV, asArg, ze, zn, zo, zj, zm, zg, zk, zu, z6, zK, zJ, E.mkS, zc, unN, zQ, zi, zw, zq, zC, zI, zf, zR, zr, GS, simprocAttr, zy.zY, c]
 | d + 1, i, hd, hi => by
  have hlt : i < cs.length := by omega
  have c : decide ((i : Int) < ((cs.length : Nat) : Int)) = true := by simp; omega
  have IH := oS cs hl hc d (i + 1) (by omega) (by omega)
  have e1 : (i : Int) + 1 = ((i + 1 : Nat) : Int) := by omega
  have hcall := hc _ (List.getElem_mem hlt)
  have hget := zy.yW cs i hlt
  generalize hci : cs[i] = ci at hcall hget
  obtain ⟨name, range, text⟩ := ci
  simp only [sF, zy.enc, List.map_cons, List.map_nil] at hcall hget
  refine zD Tryz.func24 rfl rfl ?_
  simp (disch := omega) only [↓GO, ↓DRW, GA, ren, zG, zd, refs, zb, cst, zl, zM, z7, E.load, E.store, zL, isC, bin, zN, zO, una, z8, za, zh, zP, blt, fnV, asArg, ze, zn, zo, zj, zm, zg, zk, zu, z6, zK, zJ, E.mkS, zc, unN, zQ, zi, zw, zq, zC, zI, zf, zR, zr, GS, simprocAttr, zy.zY, c, hget, zB, e1, hcall]
  exact IH
theorem gY (cs : List zy) (hl : cs.length ≤ 1048576) (hc : ∀ c ∈ cs, sF c) : zE (EV Tryz.prog pol) 24 [.t (.list 3 (zy.yb cs)), .t (.list 3 (zy.yb cs))] = some (.t (.bool true)) := by
 apply zz
 refine zA rfl Tryz.func24 rfl (by kernel_rfl) ?_
 unfold Tryz.f24
 have IH := oS cs hl hc cs.length 0 (by omega) (by omega)
 simp only [Int.natCast_zero] at IH
 simp only [↓GO, ↓DRW, GA, ren, zG, zd, refs, zb, cst, zl, zM, z7, E.load, E.store, zL, isC, bin, zN, zO, una, z8, za, zh, zP, blt, fnV, asArg, ze, zn, zo, zj, zm, zg, zk, zu, z6, zK, zJ, E.mkS, zc, unN, zQ, zi, zw, zq, zC, zI, zf, zR, zr, GS, simprocAttr, zy.zY, IH, bne_self_eq_false]
end Go.Proofs.YtijninlbpifonaaGreatDoor
/- Versions compared, plain: both ways come to the same; what is in a range. Conditions: none. -/
namespace Go.Proofs.YtijninlbpifonaaGreatDoor
open E
set_option linter.unusedVariables false
set_option linter.unusedSimpArgs false
set_option maxRecDepth 100000
/-- a number's digits, none for zero -/
def dg (u : Nat) : Str := cond (u == 0) [] (Lib.decDigits u)
theorem nQ : dg 0 = [] := rfl
theorem aU {u : Nat} (h : 0 < u) : dg u = Lib.decDigits u := by
 unfold dg; rw [show (u == 0) = false by simp; omega]; rfl
theorem iZ {u : Nat} (h : 0 < u) : dg u = dg (u / 10) ++ [UInt8.ofNat (48 + u % 10)] := by
 rw [aU h, Lib.decDigits]
 split
 · rename_i h10
   rw [show u / 10 = 0 by omega, nQ, show u % 10 = u by omega]; rfl
 · rename_i h10
   rw [aU (show 0 < u / 10 by omega)]
theorem hJ : ∀ (n u : Nat), u ≤ n → 0 < u → ∃ c r, dg u = c :: r ∧ (c == 48) = false
 | 0, u, h, h0 => by omega
 | n + 1, u, h, h0 => by
  rw [iZ h0]
  by_cases h1 : 0 < u / 10
  · obtain ⟨c, r, e1, e2⟩ := hJ n (u / 10) (by omega) h1
    exact ⟨c, r ++ [UInt8.ofNat (48 + u % 10)], by rw [e1]; rfl, e2⟩
  · rw [show u / 10 = 0 by omega, nQ]
    refine ⟨_, [], rfl, ?_⟩
    have key : ∀ k : Fin 10, k.val ≠ 0 → (UInt8.ofNat (48 + k.val) == 48) = false := by decide +kernel
    exact key ⟨u % 10, by omega⟩ (by simp only; omega)
def ltL (x y : Str) : Bool := decide (x.length < y.length) || (decide (x.length = y.length) && Op.bytesLess x y)
theorem X6 : ∀ x : Str, Op.bytesLess x [] = false
 | [] => rfl
 | _ :: _ => rfl
theorem rr : ∀ x : Str, Op.bytesLess x x = false
 | [] => rfl
 | a :: x => by rw [v7, rr x]; simp
theorem eM (a b : UInt8) : ∀ x y : Str, x.length = y.length → Op.bytesLess (x ++ [a]) (y ++ [b]) = (Op.bytesLess x y || (x == y && decide (a < b)))
 | [], [], _ => by
  simp only [List.nil_append]
  rw [v7]
  simp [Op.bytesLess]
 | [], _ :: _, h => by simp at h
 | _ :: _, [], h => by simp at h
 | c :: x, d :: y, h => by
  have ih := eM a b x y (by simpa using h)
  rw [List.cons_append, List.cons_append, v7, v7, ih]
  have e : ((c :: x) == (d :: y)) = (c == d && x == y) := rfl
  rw [e]
  cases decide (c < d) <;> cases (c == d) <;> cases Op.bytesLess x y <;> cases (x == y) <;> cases decide (a < b) <;> rfl
theorem Vr (a b : UInt8) (x y : Str) : ltL (x ++ [a]) (y ++ [b]) = (ltL x y || (x == y && decide (a < b))) := by
 unfold ltL
 simp only [List.length_append, List.length_cons, List.length_nil]
 by_cases h1 : x.length = y.length
 · rw [eM a b x y h1]
   have e1 : decide (x.length + 1 < y.length + 1) = false := by apply decide_eq_false; omega
   have e2 : decide (x.length < y.length) = false := by apply decide_eq_false; omega
   have e3 : decide (x.length + 1 = y.length + 1) = true := by apply decide_eq_true; omega
   have e4 : decide (x.length = y.length) = true := by apply decide_eq_true; exact h1
   simp only [Nat.zero_add, e1, e2, e3, e4, Bool.false_or, Bool.true_and]
 · have e : (x == y) = false := by rw [beq_eq_false_iff_ne]; intro h; exact h1 (by rw [h])
   have e3 : decide (x.length + 1 = y.length + 1) = false := by apply decide_eq_false; omega
   have e4 : decide (x.length = y.length) = false := by apply decide_eq_false; exact h1
   have e5 : decide (x.length + 1 < y.length + 1) = decide (x.length < y.length) := by
    rw [Bool.eq_iff_iff]; simp only [decide_eq_true_eq]; omega
   simp only [Nat.zero_add, e, e3, e4, e5, Bool.false_and, Bool.or_false]
theorem ZE (x : Str) : ltL x x = false := by unfold ltL; rw [rr]; simp
theorem YB : ∀ (n u w : Nat), u + w ≤ n → ltL (dg u) (dg w) = decide (u < w)
 | 0, u, w, h => by
  have h1 : u = 0 := by omega
  have h2 : w = 0 := by omega
  subst h1; subst h2; rfl
 | n + 1, u, w, h => by
  by_cases hw : w = 0
  · subst hw
    rw [nQ]
    unfold ltL
    rw [X6]; simp
  · by_cases hu : u = 0
    · subst hu
      obtain ⟨c, r, e, _⟩ := hJ w w (Nat.le_refl _) (by omega)
      rw [nQ, e]
      unfold ltL
      simp; omega
    · rw [iZ (show 0 < u by omega), iZ (show 0 < w by omega), Vr]
      have i1 := YB n (u / 10) (w / 10) (by omega)
      have i2 := YB n (w / 10) (u / 10) (by omega)
      have ed : decide (UInt8.ofNat (48 + u % 10) < UInt8.ofNat (48 + w % 10)) = decide (u % 10 < w % 10) := by
       have key : ∀ a b : Fin 10, decide (UInt8.ofNat (48 + a.val) < UInt8.ofNat (48 + b.val)) = decide (a.val < b.val) := by decide +kernel
       exact key ⟨u % 10, by omega⟩ ⟨w % 10, by omega⟩
      rw [i1, ed]
      by_cases he : u / 10 = w / 10
      · rw [he]
        simp only [beq_self_eq_true, Bool.true_and, Nat.lt_irrefl, decide_false, Bool.false_or]
        rw [Bool.eq_iff_iff]; simp only [decide_eq_true_eq]; omega
      · have hx : (dg (u / 10) == dg (w / 10)) = false := by
         rw [beq_eq_false_iff_ne]; intro hh
         rw [hh, ZE] at i1
         rw [hh, ZE] at i2
         have a1 := of_decide_eq_false i1.symm
         have a2 := of_decide_eq_false i2.symm
         omega
        rw [hx, Bool.false_and, Bool.or_false, Bool.eq_iff_iff]
        simp only [decide_eq_true_eq]; omega
/-- without zeros in front -/
def w9 (s : Str) : Str := s.dropWhile (· == 48)
theorem ma (u : Nat) : w9 (Lib.decDigits u) = dg u := by
 by_cases h : 0 < u
 · rw [← aU h]
   obtain ⟨c, r, e, e2⟩ := hJ u u (Nat.le_refl _) h
   rw [e]; unfold w9; simp [List.dropWhile, e2]
 · have : u = 0 := by omega
   subst this
   rw [Lib.decDigits_one (by omega)]; rfl
def Yi (a b : Str) : Int := cond (isNum a && isNum b)
 (cond (yR ((w9 a).length : Int) ((w9 b).length : Int) == 0) (rV (w9 a) (w9 b)) (yR ((w9 a).length : Int) ((w9 b).length : Int)))
 (cond (isNum a) (-1) (cond (isNum b) 1 (rV a b)))
theorem j7 {a : Str} (h : wi a = true) : isNum a = decide (zF a ≥ 0) := by
 unfold wi at h
 simp only [Bool.and_eq_true, Bool.or_eq_true, Bool.not_eq_true', decide_eq_true_eq] at h
 rcases h.2.2 with h1 | h1
 · rw [h1]
   symm
   apply decide_eq_false
   intro hg
   obtain ⟨a1, _, _, a4⟩ := yX (s := a) hg
   unfold isNum at h1
   have e1 : (a == []) = false := by simpa using a4
   have e2 : a.all isD = true := by rw [List.all_eq_true]; exact a1
   rw [e1, e2] at h1; cases h1
 · have e : decide (zF a ≥ 0) = true := decide_eq_true h1
   rw [e]
   obtain ⟨a1, _, _, a4⟩ := yX (s := a) h1
   unfold isNum
   have e1 : (a == []) = false := by simpa using a4
   have e2 : a.all isD = true := by rw [List.all_eq_true]; exact a1
   rw [e1, e2]; rfl
theorem mL {a : Str} (h : zF a ≥ 0) : ∃ u : Nat, zF a = u ∧ a = Lib.decDigits u := by
 obtain ⟨_, a2, _, _⟩ := yX (s := a) h
 obtain ⟨u, hu⟩ : ∃ u : Nat, zF a = u := ⟨(zF a).toNat, by omega⟩
 refine ⟨u, hu, ?_⟩
 rw [hu, Lib.itoa_nonneg] at a2
 exact a2.symm
theorem SV (u w : Nat) : cond (yR ((dg u).length : Int) ((dg w).length : Int) == 0) (rV (dg u) (dg w)) (yR ((dg u).length : Int) ((dg w).length : Int)) = yR (u : Int) (w : Int) := by
 have h1 := YB (u + w) u w (Nat.le_refl _)
 have h2 := YB (u + w) w u (by omega)
 rw [vw]
 unfold ltL at h1 h2
 rcases Nat.lt_trichotomy u w with h | h | h
 · have e : decide (u < w) = true := decide_eq_true h
   rw [e] at h1
   have r : yR (u : Int) (w : Int) = -1 := by unfold yR; rw [show decide ((u : Int) < (w : Int)) = true by apply decide_eq_true; omega]; rfl
   rw [r]
   rcases Nat.lt_trichotomy (dg u).length (dg w).length with g | g | g
   · have e1 : (((dg u).length : Int) == ((dg w).length : Int)) = false := by rw [beq_eq_false_iff_ne]; omega
     rw [e1, cond_false]
     unfold yR; rw [show decide (((dg u).length : Int) < ((dg w).length : Int)) = true by apply decide_eq_true; omega]; rfl
   · have e1 : (((dg u).length : Int) == ((dg w).length : Int)) = true := by rw [beq_iff_eq]; omega
     rw [e1, cond_true]
     have e2 : Op.bytesLess (dg u) (dg w) = true := by
      simp only [g, Nat.lt_irrefl, decide_false, Bool.false_or, decide_true, Bool.true_and] at h1; exact h1
     unfold rV; rw [e2]; rfl
   · exfalso
     have e1 : decide ((dg u).length < (dg w).length) = false := by apply decide_eq_false; omega
     have e2 : decide ((dg u).length = (dg w).length) = false := by apply decide_eq_false; omega
     rw [e1, e2] at h1; cases h1
 · subst h
   have e1 : (((dg u).length : Int) == ((dg u).length : Int)) = true := by simp
   rw [e1, cond_true]
   have r : yR (u : Int) (u : Int) = 0 := by unfold yR; simp
   rw [r]; unfold rV; rw [rr]; simp
 · have e : decide (w < u) = true := decide_eq_true h
   rw [e] at h2
   have r : yR (u : Int) (w : Int) = 1 := by
    unfold yR
    rw [show decide ((u : Int) < (w : Int)) = false by apply decide_eq_false; omega, show decide ((u : Int) > (w : Int)) = true by apply decide_eq_true; omega]; rfl
   rw [r]
   rcases Nat.lt_trichotomy (dg w).length (dg u).length with g | g | g
   · have e1 : (((dg u).length : Int) == ((dg w).length : Int)) = false := by rw [beq_eq_false_iff_ne]; omega
     rw [e1, cond_false]
     unfold yR
     rw [show decide (((dg u).length : Int) < ((dg w).length : Int)) = false by apply decide_eq_false; omega, show decide (((dg u).length : Int) > ((dg w).length : Int)) = true by apply decide_eq_true; omega]; rfl
   · have e1 : (((dg u).length : Int) == ((dg w).length : Int)) = true := by rw [beq_iff_eq]; omega
     rw [e1, cond_true]
     have e2 : Op.bytesLess (dg w) (dg u) = true := by
      simp only [g, Nat.lt_irrefl, decide_false, Bool.false_or, decide_true, Bool.true_and] at h2; exact h2
     have e3 := iQ (dg u) (dg w)
     rw [e2] at e3
     have e4 : Op.bytesLess (dg u) (dg w) = false := by
      cases hh : Op.bytesLess (dg u) (dg w) with
      | false => rfl
      | true => rw [hh] at e3; cases e3
     unfold rV; rw [e3, e4]; rfl
   · exfalso
     have e1 : decide ((dg w).length < (dg u).length) = false := by apply decide_eq_false; omega
     have e2 : decide ((dg w).length = (dg u).length) = false := by apply decide_eq_false; omega
     rw [e1, e2] at h2; cases h2
theorem SY {a b : Str} (ha : wi a = true) (hb : wi b = true) : Yi a b = ub a b := by
 unfold Yi ub
 rw [j7 ha, j7 hb]
 cases h1 : decide (zF a ≥ 0) <;> cases h2 : decide (zF b ≥ 0) <;> simp only [Bool.and_true, Bool.and_false, Bool.true_and, Bool.false_and, cond_true, cond_false]
 obtain ⟨u, e1, e2⟩ := mL (of_decide_eq_true h1)
 obtain ⟨w, e3, e4⟩ := mL (of_decide_eq_true h2)
 rw [e1, e3, e2, e4, ma, ma]
 exact SV u w
def rB : List Str → List Str → Option Int
 | a :: l, b :: m => cond (Yi a b == 0) (rB l m) (some (Yi a b))
 | _, _ => none
theorem fX : ∀ {a b : List Str}, (∀ x ∈ a, wi x = true) → (∀ x ∈ b, wi x = true) → rB a b = uf a b
 | [], _, _, _ => by unfold rB uf; rfl
 | _ :: _, [], _, _ => rfl
 | x :: a, y :: b, ha, hb => by
  rw [rB, uf, SY (ha x (by simp)) (hb y (by simp)), fX (fun z hz => ha z (by simp [hz])) (fun z hz => hb z (by simp [hz]))]
def od (a b : Ver) : Int :=
 cond (yR a.maj b.maj == 0) (cond (yR a.min b.min == 0) (cond (yR a.pat b.pat == 0)
  (cond ((a.pre == []) != (b.pre == [])) (yR (b.pre.length : Int) (a.pre.length : Int)) ((rB a.pre b.pre).getD (yR (a.pre.length : Int) (b.pre.length : Int))))
  (yR a.pat b.pat)) (yR a.min b.min)) (yR a.maj b.maj)
theorem nS {a b : Ver} (ha : yz a = true) (hb : yz b = true) : od a b = uz a b := by
 have h1 := (w3 ha).2.2.2.1
 have h2 := (w3 hb).2.2.2.1
 rw [List.all_eq_true] at h1 h2
 have hs := fX h1 h2
 unfold od uz vg
 rw [hs]
 congr 3
 cases hx : a.pre with
 | nil =>
  cases hy : b.pre with
  | nil => rfl
  | cons y l => rfl
 | cons x k =>
  cases hy : b.pre with
  | nil => rfl
  | cons y l => rfl
end Go.Proofs.YtijninlbpifonaaGreatDoor
/- The tables of a graph, plain. Conditions: none. -/
namespace Go.Proofs.YtijninlbpifonaaGreatDoor
open E
set_option linter.unusedVariables false
set_option linter.unusedSimpArgs false
set_option maxRecDepth 100000
end Go.Proofs.YtijninlbpifonaaGreatDoor
/- What is in a range, what notices tell: plain; both ways come to the same. Conditions: none. -/
namespace Go.Proofs.YtijninlbpifonaaGreatDoor
open E
set_option linter.unusedVariables false
set_option linter.unusedSimpArgs false
set_option maxRecDepth 100000
theorem dT : ∀ a b : Str, Lib.compareBytes a b = rV a b
 | [], [] => rfl
 | [], _ :: _ => rfl
 | _ :: _, [] => by simp [Lib.compareBytes, rV, Op.bytesLess]
 | a :: x, b :: y => by
  have ih := dT x y
  unfold rV at ih ⊢
  rw [Lib.compareBytes, v7, show ((a :: x) == (b :: y)) = (a == b && x == y) from rfl]
  by_cases h1 : a < b
  · rw [if_pos h1]; simp [h1]
  · rw [if_neg h1]
    by_cases h2 : b < a
    · have h3 : (a == b) = false := by
       rw [beq_eq_false_iff_ne]; intro h; subst h; exact h1 h2
      rw [if_pos h2]; simp [h1, h3]
    · have h3 : a = b := by
       apply UInt8.toNat_inj.1; simp only [UInt8.lt_iff_toNat_lt] at h1 h2; omega
      subst h3
      rw [if_neg h2, ih]
      simp only [decide_false, h1, Bool.false_or, beq_self_eq_true, Bool.true_and]
def Yu (v l : Ver) : Bool := !(l.pre == []) && (l.maj == v.maj && (l.min == v.min && l.pat == v.pat))
def vM (v : Ver) (b : Bd) : Bool :=
 cond (((zx b.1).2 && decide (uz v (zx b.1).1 < 0)) || ((zx b.2).2 && decide (uz v (zx b.2).1 ≥ 0))) false
  (v.pre == [] || ((zx b.1).2 && Yu v (zx b.1).1))
def oe (v : Ver) (b : Bd) : Bool :=
 cond ((!(b.1 == []) && decide (od v (zx b.1).1 < 0)) || (!(b.2 == []) && decide (od v (zx b.2).1 ≥ 0))) false
  (v.pre == [] || Yu v (zx b.1).1)
theorem eV {s : Str} (h : isE s = true) : (!(s == [])) = (zx s).2 := by
 unfold isE at h
 cases hs : (s == []) with
 | false =>
  rw [hs, Bool.or_false] at h
  unfold isV at h
  rw [h]; rfl
 | true =>
  have : s = [] := by simpa using hs
  subst this
  cases hr : (zx []).2 with
  | false => rfl
  | true => exact absurd rfl (yl hr).2.2.2
theorem cF {v : Ver} (hv : yz v = true) {b : Bd} (h1 : isE b.1 = true) (h2 : isE b.2 = true) : oe v b = vM v b := by
 unfold oe vM
 rw [eV h1, eV h2]
 have e1 : ((zx b.1).2 && decide (od v (zx b.1).1 < 0)) = ((zx b.1).2 && decide (uz v (zx b.1).1 < 0)) := by
  cases hr : (zx b.1).2 with
  | false => rfl
  | true => rw [nS hv (yl hr).2.2.1]
 have e2 : ((zx b.2).2 && decide (od v (zx b.2).1 ≥ 0)) = ((zx b.2).2 && decide (uz v (zx b.2).1 ≥ 0)) := by
  cases hr : (zx b.2).2 with
  | false => rfl
  | true => rw [nS hv (yl hr).2.2.1]
 have e3 : Yu v (zx b.1).1 = ((zx b.1).2 && Yu v (zx b.1).1) := by
  cases hr : (zx b.1).2 with
  | false => rw [kb hr]; rfl
  | true => rfl
 rw [e1, e2, ← e3]
/-- is a version in a range? -/
def inB (s : Str) (l : List Bd) : Bool := (zx s).2 && (xn l && l.any (vM (zx s).1))
theorem cb {v : Ver} (hv : yz v = true) : ∀ (l : List Bd), (l.all fun b => isE b.1 && isE b.2) = true → l.any (oe v) = l.any (vM v)
 | [], _ => rfl
 | b :: l, h => by
  simp only [List.all_cons, Bool.and_eq_true] at h
  rw [List.any_cons, List.any_cons, cF hv h.1.1 h.1.2, cb hv l h.2]
def pM (x : zy) : Bool := (wo x.range).isSome && (tK x.name && (u6 x.text && !(x.text == [])))
def afT (n : zy) (name ver : Str) : Bool := pM n && (n.name == name && inB ver ((wo n.range).getD []))
end Go.Proofs.YtijninlbpifonaaGreatDoor
/- Versions compared by the implementation; what is in a range, by both; what a notice tells of. Conditions: those of each lemma. -/
namespace Go.Proofs.YtijninlbpifonaaGreatDoor
open E
set_option linter.unusedSimpArgs false
set_option linter.unusedVariables false
set_option maxRecDepth 100000
theorem vy (a b : Int) : zE (EV Tryz.prog pol) 165 [.t (.int .i64 a), .t (.int .i64 b)] = some (.t (.int .i64 (yR a b))) := by
 unfold yR
 cases h1 : decide (a < b) <;> cases h2 : decide (a > b)
 all_goals
  apply zz
  refine zA rfl Tryz.func165 rfl (by kernel_rfl) ?_
  unfold Tryz.f165
  simp (disch := ((try simp only [LL]); omega)) only [↓GO, ↓DRW, GA, ren, zG, zd, refs, zb, cst, zl, zM, z7, E.load, E.store, zL, isC, bin, zN, zO, una, z8, za, zh, zP, blt, fnV, asArg, ze, zn, zo, zj, zm, zg, zk, zu, z6, zK, zJ, E.mkS, zc, unN, zQ, zi, zw, zq, zC, zI, zf, zR, zr, GS, simprocAttr, GZ, h1, h2]
theorem ZL : ∀ s : Str, s.length ≤ 4194304 → EV Tryz.prog pol (.loop 305 12 0 [.t (.str s), .t (.int .u8 48)] []) = some (.loop (.exit 0) [.t (.str (w9 s))] [])
 | [], _ => by
  refine zD Tryz.func305 rfl rfl ?_
  simp (disch := ((try simp only [LL]); omega)) only [↓GO, ↓DRW, GA, ren, zG, zd, refs, zb, cst, zl, zM, z7, E.load, E.store, zL, isC, bin, zN, zO, una, z8, za, zh, zP, blt, fnV, asArg, ze, zn, zo, zj, zm, zg, zk, zu, z6, zK, zJ, E.mkS, zc, unN, zQ, zi, zw, zq, zC, zI, zf, zR, zr, GS, simprocAttr, GZ, List.length_nil, Int.natCast_zero]
  rfl
 | b :: s, h => by
  have c : decide (((s.length + 1 : Nat) : Int) > 0) = true := by apply decide_eq_true; omega
  have hb : ((b.toNat : Int) == 48) = (b == 48) := by
   rw [Bool.eq_iff_iff]
   simp only [beq_iff_eq]
   constructor
   · intro h; apply UInt8.toNat_inj.1; have : (48 : UInt8).toNat = 48 := rfl; omega
   · intro h; subst h; rfl
  have hcut : (1 : Int) ≤ ((s.length + 1 : Nat) : Int) := by omega
  cases hz : (b == 48) with
  | false =>
   rw [hz] at hb
   have e : w9 (b :: s) = b :: s := by unfold w9; simp [List.dropWhile, hz]
   rw [e]
   refine zD Tryz.func305 rfl rfl ?_
   simp (disch := ((try simp only [LL]); omega)) only [↓GO, ↓DRW, GA, ren, zG, zd, refs, zb, cst, zl, zM, z7, E.load, E.store, zL, isC, bin, zN, zO, una, z8, za, zh, zP, blt, fnV, asArg, ze, zn, zo, zj, zm, zg, zk, zu, z6, zK, zJ, E.mkS, zc, unN, zQ, zi, zw, zq, zC, zI, zf, zR, zr, GS, simprocAttr, GZ, c, hb, hcut]
  | true =>
   rw [hz] at hb
   have IH := ZL s (by simp only [List.length_cons] at h; omega)
   have e : w9 (b :: s) = w9 s := by unfold w9; simp [List.dropWhile, hz]
   rw [e]
   refine zD Tryz.func305 rfl rfl ?_
   simp (disch := ((try simp only [LL]); omega)) only [↓GO, ↓DRW, GA, ren, zG, zd, refs, zb, cst, zl, zM, z7, E.load, E.store, zL, isC, bin, zN, zO, una, z8, za, zh, zP, blt, fnV, asArg, ze, zn, zo, zj, zm, zg, zk, zu, z6, zK, zJ, E.mkS, zc, unN, zQ, zi, zw, zq, zC, zI, zf, zR, zr, GS, simprocAttr, GZ, c, hb, hcut, IH]
theorem Yk (s : Str) (h : s.length ≤ 4194304) : zE (EV Tryz.prog pol) 247 [.t (.str s), .t (.str [48])] = some (.t (.str (w9 s))) := by
 have L := ZL s h
 have d : zE (EV Tryz.prog pol) 305 [.t (.str s), .t (.int .u8 48)] = some (.t (.str (w9 s))) := by
  apply zz
  refine zA rfl Tryz.func305 rfl (by kernel_rfl) ?_
  unfold Tryz.f305
  simp (disch := ((try simp only [LL]); omega)) only [↓GO, ↓DRW, GA, ren, zG, zd, refs, zb, cst, zl, zM, z7, E.load, E.store, zL, isC, bin, zN, zO, una, z8, za, zh, zP, blt, fnV, asArg, ze, zn, zo, zj, zm, zg, zk, zu, z6, zK, zJ, E.mkS, zc, unN, zQ, zi, zw, zq, zC, zI, zf, zR, zr, GS, simprocAttr, GZ, L]
 cases hs : (s == []) with
 | true =>
  have : s = [] := by simpa using hs
  subst this
  apply zz
  refine zA rfl Tryz.func247 rfl (by kernel_rfl) ?_
  unfold Tryz.f247
  simp (disch := ((try simp only [LL]); omega)) only [↓GO, ↓DRW, GA, ren, zG, zd, refs, zb, cst, zl, zM, z7, E.load, E.store, zL, isC, bin, zN, zO, una, z8, za, zh, zP, blt, fnV, asArg, ze, zn, zo, zj, zm, zg, zk, zu, z6, zK, zJ, E.mkS, zc, unN, zQ, zi, zw, zq, zC, zI, zf, zR, zr, GS, simprocAttr, GZ, hs]
  rfl
 | false =>
  have h48 : (([48] : Str) == []) = false := rfl
  have h49 : ((UInt8.toNat 48 : Nat) : Int) = 48 := rfl
  have h50 : decide ((48 : Int) < 128) = true := rfl
  apply zz
  refine zA rfl Tryz.func247 rfl (by kernel_rfl) ?_
  unfold Tryz.f247
  simp (disch := ((try simp only [LL]); omega)) only [↓GO, ↓DRW, GA, ren, zG, zd, refs, zb, cst, zl, zM, z7, E.load, E.store, zL, isC, bin, zN, zO, una, z8, za, zh, zP, blt, fnV, asArg, ze, zn, zo, zj, zm, zg, zk, zu, z6, zK, zJ, E.mkS, zc, unN, zQ, zi, zw, zq, zC, zI, zf, zR, zr, GS, simprocAttr, GZ, hs, h48, h49, h50, d, List.length_cons, List.length_nil]
theorem U4 (a b : Str) (ha : a.length ≤ 4194304) (hb : b.length ≤ 4194304) : zE (EV Tryz.prog pol) 166 [.t (.str a), .t (.str b)] = some (.t (.int .i64 (Yi a b))) := by
 have d1 := hZ a (by omega)
 have d2 := hZ b (by omega)
 have d3 := Yk a ha
 have d4 := Yk b hb
 have d5 := vy ((w9 a).length : Int) ((w9 b).length : Int)
 have d6 := Tt a b
 have d7 := Tt (w9 a) (w9 b)
 rw [dT] at d6 d7
 unfold Yi
 generalize w9 a = ta at *
 generalize w9 b = tb at *
 generalize yR (ta.length : Int) (tb.length : Int) = n at *
 cases h1 : isNum a <;> cases h2 : isNum b <;> rw [h1] at d1 <;> rw [h2] at d2 <;> simp only [Bool.and_true, Bool.and_false, cond_true, cond_false]
 · apply zz
   refine zA rfl Tryz.func166 rfl (by kernel_rfl) ?_
   unfold Tryz.f166
   simp (disch := ((try simp only [LL]); omega)) only [↓GO, ↓DRW, GA, ren, zG, zd, refs, zb, cst, zl, zM, z7, E.load, E.store, zL, isC, bin, zN, zO, una, z8, za, zh, zP, blt, fnV, asArg, ze, zn, zo, zj, zm, zg, zk, zu, z6, zK, zJ, E.mkS, zc, unN, zQ, zi, zw, zq, zC, zI, zf, zR, zr, GS, simprocAttr, GZ, d1, d2, d6]
 · apply zz
   refine zA rfl Tryz.func166 rfl (by kernel_rfl) ?_
   unfold Tryz.f166
   simp (disch := ((try simp only [LL]); omega)) only [↓GO, ↓DRW, GA, ren, zG, zd, refs, zb, cst, zl, zM, z7, E.load, E.store, zL, isC, bin, zN, zO, una, z8, za, zh, zP, blt, fnV, asArg, ze, zn, zo, zj, zm, zg, zk, zu, z6, zK, zJ, E.mkS, zc, unN, zQ, zi, zw, zq, zC, zI, zf, zR, zr, GS, simprocAttr, GZ, d1, d2, d6]
 · apply zz
   refine zA rfl Tryz.func166 rfl (by kernel_rfl) ?_
   unfold Tryz.f166
   simp (disch := ((try simp only [LL]); omega)) only [↓GO, ↓DRW, GA, ren, zG, zd, refs, zb, cst, zl, zM, z7, E.load, E.store, zL, isC, bin, zN, zO, una, z8, za, zh, zP, blt, fnV, asArg, ze, zn, zo, zj, zm, zg, zk, zu, z6, zK, zJ, E.mkS, zc, unN, zQ, zi, zw, zq, zC, zI, zf, zR, zr, GS, simprocAttr, GZ, d1, d2, d6]
 · cases hn : (n == 0)
   all_goals
    simp only [cond_true, cond_false]
    apply zz
    refine zA rfl Tryz.func166 rfl (by kernel_rfl) ?_
    unfold Tryz.f166
    simp (disch := ((try simp only [LL]); omega)) only [↓GO, ↓DRW, GA, ren, zG, zd, refs, zb, cst, zl, zM, z7, E.load, E.store, zL, isC, bin, zN, zO, una, z8, za, zh, zP, blt, fnV, asArg, ze, zn, zo, zj, zm, zg, zk, zu, z6, zK, zJ, E.mkS, zc, unN, zQ, zi, zw, zq, zC, zI, zf, zR, zr, GS, simprocAttr, GZ, d1, d2, d3, d4, d5, d7, hn, bne]
theorem SA (x1 x2 x3 x4 y1 y2 y3 y4 : T) (a b c : Int) :
 EV Tryz.prog pol (.loop 72 26 0 [.ptr 0 0 0, .ptr 1 0 0, .sl 2 0 3 (some 3), .t (.int .i64 3), .t (.int .i64 0)] [.vs 4 [[.t x1, .t x2, .t x3, .t x4]], .vs 4 [[.t y1, .t y2, .t y3, .t y4]], .ts 1 [[.int .i64 a], [.int .i64 b], [.int .i64 c]]])
 = some (cond (a == 0) (cond (b == 0) (cond (c == 0) (.loop (.exit 0) [.ptr 0 0 0, .ptr 1 0 0, .bad] [.vs 4 [[.t x1, .t x2, .t x3, .t x4]], .vs 4 [[.t y1, .t y2, .t y3, .t y4]]])
  (.loop .ret [.ptr 0 0 0, .ptr 1 0 0, .t (.int .i64 c)] [.vs 4 [[.t x1, .t x2, .t x3, .t x4]], .vs 4 [[.t y1, .t y2, .t y3, .t y4]]]))
  (.loop .ret [.ptr 0 0 0, .ptr 1 0 0, .t (.int .i64 b)] [.vs 4 [[.t x1, .t x2, .t x3, .t x4]], .vs 4 [[.t y1, .t y2, .t y3, .t y4]]]))
  (.loop .ret [.ptr 0 0 0, .ptr 1 0 0, .t (.int .i64 a)] [.vs 4 [[.t x1, .t x2, .t x3, .t x4]], .vs 4 [[.t y1, .t y2, .t y3, .t y4]]])) := by
 cases h1 : (a == 0)
 · refine zD Tryz.func72 rfl rfl ?_
   simp (disch := ((try simp only [LL]); omega)) only [↓GO, ↓DRW, GA, ren, zG, zd, refs, zb, cst, zl, zM, z7, E.load, E.store, zL, isC, bin, zN, zO, una, z8, za, zh, zP, blt, fnV, asArg, ze, zn, zo, zj, zm, zg, zk, zu, z6, zK, zJ, E.mkS, zc, unN, zQ, zi, zw, zq, zC, zI, zf, zR, zr, GS, simprocAttr, GZ, h1, bne, zB, y6]
 · refine zD Tryz.func72 rfl rfl ?_
   simp (disch := ((try simp only [LL]); omega)) only [↓GO, ↓DRW, GA, ren, zG, zd, refs, zb, cst, zl, zM, z7, E.load, E.store, zL, isC, bin, zN, zO, una, z8, za, zh, zP, blt, fnV, asArg, ze, zn, zo, zj, zm, zg, zk, zu, z6, zK, zJ, E.mkS, zc, unN, zQ, zi, zw, zq, zC, zI, zf, zR, zr, GS, simprocAttr, GZ, h1, bne, zB, y6, Int.zero_add]
   cases h2 : (b == 0)
   · refine zD Tryz.func72 rfl rfl ?_
     simp (disch := ((try simp only [LL]); omega)) only [↓GO, ↓DRW, GA, ren, zG, zd, refs, zb, cst, zl, zM, z7, E.load, E.store, zL, isC, bin, zN, zO, una, z8, za, zh, zP, blt, fnV, asArg, ze, zn, zo, zj, zm, zg, zk, zu, z6, zK, zJ, E.mkS, zc, unN, zQ, zi, zw, zq, zC, zI, zf, zR, zr, GS, simprocAttr, GZ, h2, bne, zB, y6]
   · refine zD Tryz.func72 rfl rfl ?_
     simp (disch := ((try simp only [LL]); omega)) only [↓GO, ↓DRW, GA, ren, zG, zd, refs, zb, cst, zl, zM, z7, E.load, E.store, zL, isC, bin, zN, zO, una, z8, za, zh, zP, blt, fnV, asArg, ze, zn, zo, zj, zm, zg, zk, zu, z6, zK, zJ, E.mkS, zc, unN, zQ, zi, zw, zq, zC, zI, zf, zR, zr, GS, simprocAttr, GZ, h2, bne, zB, y6, Int.reduceAdd]
     cases h3 : (c == 0)
     · refine zD Tryz.func72 rfl rfl ?_
       simp (disch := ((try simp only [LL]); omega)) only [↓GO, ↓DRW, GA, ren, zG, zd, refs, zb, cst, zl, zM, z7, E.load, E.store, zL, isC, bin, zN, zO, una, z8, za, zh, zP, blt, fnV, asArg, ze, zn, zo, zj, zm, zg, zk, zu, z6, zK, zJ, E.mkS, zc, unN, zQ, zi, zw, zq, zC, zI, zf, zR, zr, GS, simprocAttr, GZ, h3, bne, zB, y6]
     · refine zD Tryz.func72 rfl rfl ?_
       simp (disch := ((try simp only [LL]); omega)) only [↓GO, ↓DRW, GA, ren, zG, zd, refs, zb, cst, zl, zM, z7, E.load, E.store, zL, isC, bin, zN, zO, una, z8, za, zh, zP, blt, fnV, asArg, ze, zn, zo, zj, zm, zg, zk, zu, z6, zK, zJ, E.mkS, zc, unN, zQ, zi, zw, zq, zC, zI, zf, zR, zr, GS, simprocAttr, GZ, h3, bne, zB, y6, Int.reduceAdd]
       refine zD Tryz.func72 rfl rfl ?_
       simp (disch := ((try simp only [LL]); omega)) only [↓GO, ↓DRW, GA, ren, zG, zd, refs, zb, cst, zl, zM, z7, E.load, E.store, zL, isC, bin, zN, zO, una, z8, za, zh, zP, blt, fnV, asArg, ze, zn, zo, zj, zm, zg, zk, zu, z6, zK, zJ, E.mkS, zc, unN, zQ, zi, zw, zq, zC, zI, zf, zR, zr, GS, simprocAttr, GZ, zB, y6]
theorem ZO (a b : Ver) (ha : a.sm) (hb : b.sm) (M : Nat) (hM : M = min a.pre.length b.pre.length) : ∀ (ra rb pa pb : List Str), a.pre = pa ++ ra → b.pre = pb ++ rb → pa.length = pb.length →
 EV Tryz.prog pol (.loop 72 122 0 [.ptr 0 0 0, .ptr 1 0 0, .t (.int .i64 (M : Int)), .t (.int .i64 (pa.length : Int))] [.vs 4 [a.enc.map .t], .vs 4 [b.enc.map .t]])
 = some (match rB ra rb with
  | some n => .loop .ret [.ptr 0 0 0, .ptr 1 0 0, .t (.int .i64 n)] [.vs 4 [a.enc.map .t], .vs 4 [b.enc.map .t]]
  | none => .loop (.exit 2) [.ptr 0 0 0, .ptr 1 0 0, .bad] [.vs 4 [a.enc.map .t], .vs 4 [b.enc.map .t]])
 | [], rb, pa, pb, h1, h2, h3 => by
  have l1 : a.pre.length = pa.length := by rw [h1]; simp
  have c : decide ((pa.length : Int) < (M : Int)) = false := by apply decide_eq_false; omega
  have e : rB [] rb = none := by unfold rB; rfl
  rw [e]
  simp only [Ver.enc, List.map_cons, List.map_nil]
  refine zD Tryz.func72 rfl rfl ?_
  simp (disch := ((try simp only [LL]); omega)) only [↓GO, ↓DRW, GA, ren, zG, zd, refs, zb, cst, zl, zM, z7, E.load, E.store, zL, isC, bin, zN, zO, una, z8, za, zh, zP, blt, fnV, asArg, ze, zn, zo, zj, zm, zg, zk, zu, z6, zK, zJ, E.mkS, zc, unN, zQ, zi, zw, zq, zC, zI, zf, zR, zr, GS, simprocAttr, GZ, zH, c, y6]
 | x :: ra, [], pa, pb, h1, h2, h3 => by
  have l2 : b.pre.length = pb.length := by rw [h2]; simp
  have c : decide ((pa.length : Int) < (M : Int)) = false := by apply decide_eq_false; omega
  rw [show rB (x :: ra) [] = none from rfl]
  simp only [Ver.enc, List.map_cons, List.map_nil]
  refine zD Tryz.func72 rfl rfl ?_
  simp (disch := ((try simp only [LL]); omega)) only [↓GO, ↓DRW, GA, ren, zG, zd, refs, zb, cst, zl, zM, z7, E.load, E.store, zL, isC, bin, zN, zO, una, z8, za, zh, zP, blt, fnV, asArg, ze, zn, zo, zj, zm, zg, zk, zu, z6, zK, zJ, E.mkS, zc, unN, zQ, zi, zw, zq, zC, zI, zf, zR, zr, GS, simprocAttr, GZ, zH, c, y6]
 | x :: ra, y :: rb, pa, pb, h1, h2, h3 => by
  unfold Ver.sm at ha hb
  have l1 : pa.length + ra.length + 1 = a.pre.length := by rw [h1]; simp; omega
  have l2 : pb.length + rb.length + 1 = b.pre.length := by rw [h2]; simp; omega
  have c : decide ((pa.length : Int) < (M : Int)) = true := by apply decide_eq_true; omega
  have hg1 : (strs a.pre)[pa.length]? = some [.str x] := by rw [h1]; exact wz pa x ra
  have hg2 : (strs b.pre)[pa.length]? = some [.str y] := by rw [h2, h3]; exact wz pb y rb
  have hx : x.length ≤ 2097152 := by have := xW (ks := a.pre) (s := x) (by rw [h1]; simp); omega
  have hy : y.length ≤ 2097152 := by have := xW (ks := b.pre) (s := y) (by rw [h2]; simp); omega
  have hp := U4 x y (by omega) (by omega)
  have IH := ZO a b ha hb M hM ra rb (pa ++ [x]) (pb ++ [y]) (by rw [h1]; simp) (by rw [h2]; simp) (by simp [h3])
  rw [show ((pa ++ [x]).length : Int) = (pa.length : Int) + 1 by simp] at IH
  clear h1 h2
  simp only [Ver.enc, List.map_cons, List.map_nil] at IH ⊢
  rw [rB]
  generalize Yi x y = n at *
  cases hn : (n == 0)
  · simp only [cond_false]
    refine zD Tryz.func72 rfl rfl ?_
    simp (disch := ((try simp only [LL]); omega)) only [↓GO, ↓DRW, GA, ren, zG, zd, refs, zb, cst, zl, zM, z7, E.load, E.store, zL, isC, bin, zN, zO, una, z8, za, zh, zP, blt, fnV, asArg, ze, zn, zo, zj, zm, zg, zk, zu, z6, zK, zJ, E.mkS, zc, unN, zQ, zi, zw, zq, zC, zI, zf, zR, zr, GS, simprocAttr, GZ, zH, c, hg1, hg2, hp, hn, bne, zB, y6]
  · simp only [cond_true]
    refine zD Tryz.func72 rfl rfl ?_
    simp (disch := ((try simp only [LL]); omega)) only [↓GO, ↓DRW, GA, ren, zG, zd, refs, zb, cst, zl, zM, z7, E.load, E.store, zL, isC, bin, zN, zO, una, z8, za, zh, zP, blt, fnV, asArg, ze, zn, zo, zj, zm, zg, zk, zu, z6, zK, zJ, E.mkS, zc, unN, zQ, zi, zw, zq, zC, zI, zf, zR, zr, GS, simprocAttr, GZ, zH, c, hg1, hg2, hp, hn, bne, zB, y6, IH]
theorem Rf (a b : Ver) (ha : a.sm) (hb : b.sm) : zE (EV Tryz.prog pol) 72 [.agg (a.enc.map .t), .agg (b.enc.map .t)] = some (.t (.int .i64 (od a b))) := by
 have d1 := vy a.maj b.maj
 have d2 := vy a.min b.min
 have d3 := vy a.pat b.pat
 have d4 := vy (b.pre.length : Int) (a.pre.length : Int)
 have d5 := vy (a.pre.length : Int) (b.pre.length : Int)
 obtain ⟨M, hM⟩ : ∃ M, M = min a.pre.length b.pre.length := ⟨_, rfl⟩
 have L2 := ZO a b ha hb M hM a.pre b.pre [] [] rfl rfl rfl
 have L1 := SA (.int .i64 a.maj) (.int .i64 a.min) (.int .i64 a.pat) (.list 1 (strs a.pre)) (.int .i64 b.maj) (.int .i64 b.min) (.int .i64 b.pat) (.list 1 (strs b.pre)) (yR a.maj b.maj) (yR a.min b.min) (yR a.pat b.pat)
 have e1 := ud a.pre
 have e2 := ud b.pre
 have hm : (if (b.pre.length : Int) < (a.pre.length : Int) then (b.pre.length : Int) else (a.pre.length : Int)) = (M : Int) := by split <;> omega
 clear hM
 unfold od
 simp only [List.length_nil, Int.natCast_zero] at L2
 simp only [Ver.enc, List.map_cons, List.map_nil] at L1 L2 ⊢
 generalize yR a.maj b.maj = n1 at *
 generalize yR a.min b.min = n2 at *
 generalize yR a.pat b.pat = n3 at *
 cases h1 : (n1 == 0) <;> rw [h1] at L1
 · simp only [cond_false] at L1
   apply zz
   refine zA rfl Tryz.func72 rfl (by kernel_rfl) ?_
   unfold Tryz.f72
   simp (disch := ((try simp only [LL]); omega)) only [↓GO, ↓DRW, GA, ren, zG, zd, refs, zb, cst, zl, zM, z7, E.load, E.store, zL, isC, bin, zN, zO, una, z8, za, zh, zP, blt, fnV, asArg, ze, zn, zo, zj, zm, zg, zk, zu, z6, zK, zJ, E.mkS, zc, unN, zQ, zi, zw, zq, zC, zI, zf, zR, zr, GS, simprocAttr, GZ, d1, d2, d3, L1, y6]
   refine yZ (by kernel_rfl) ?_
   simp (disch := ((try simp only [LL]); omega)) only [↓GO, ↓DRW, GA, ren, zG, zd, refs, zb, cst, zl, zM, z7, E.load, E.store, zL, isC, bin, zN, zO, una, z8, za, zh, zP, blt, fnV, asArg, ze, zn, zo, zj, zm, zg, zk, zu, z6, zK, zJ, E.mkS, zc, unN, zQ, zi, zw, zq, zC, zI, zf, zR, zr, GS, simprocAttr, GZ, d1, d2, d3, L1, y6]
 · cases h2 : (n2 == 0) <;> rw [h2] at L1
   · simp only [cond_false, cond_true] at L1
     apply zz
     refine zA rfl Tryz.func72 rfl (by kernel_rfl) ?_
     unfold Tryz.f72
     simp (disch := ((try simp only [LL]); omega)) only [↓GO, ↓DRW, GA, ren, zG, zd, refs, zb, cst, zl, zM, z7, E.load, E.store, zL, isC, bin, zN, zO, una, z8, za, zh, zP, blt, fnV, asArg, ze, zn, zo, zj, zm, zg, zk, zu, z6, zK, zJ, E.mkS, zc, unN, zQ, zi, zw, zq, zC, zI, zf, zR, zr, GS, simprocAttr, GZ, d1, d2, d3, L1, y6]
     refine yZ (by kernel_rfl) ?_
     simp (disch := ((try simp only [LL]); omega)) only [↓GO, ↓DRW, GA, ren, zG, zd, refs, zb, cst, zl, zM, z7, E.load, E.store, zL, isC, bin, zN, zO, una, z8, za, zh, zP, blt, fnV, asArg, ze, zn, zo, zj, zm, zg, zk, zu, z6, zK, zJ, E.mkS, zc, unN, zQ, zi, zw, zq, zC, zI, zf, zR, zr, GS, simprocAttr, GZ, d1, d2, d3, L1, y6]
   · cases h3 : (n3 == 0) <;> rw [h3] at L1
     · simp only [cond_false, cond_true] at L1
       apply zz
       refine zA rfl Tryz.func72 rfl (by kernel_rfl) ?_
       unfold Tryz.f72
       simp (disch := ((try simp only [LL]); omega)) only [↓GO, ↓DRW, GA, ren, zG, zd, refs, zb, cst, zl, zM, z7, E.load, E.store, zL, isC, bin, zN, zO, una, z8, za, zh, zP, blt, fnV, asArg, ze, zn, zo, zj, zm, zg, zk, zu, z6, zK, zJ, E.mkS, zc, unN, zQ, zi, zw, zq, zC, zI, zf, zR, zr, GS, simprocAttr, GZ, d1, d2, d3, L1, y6]
       refine yZ (by kernel_rfl) ?_
       simp (disch := ((try simp only [LL]); omega)) only [↓GO, ↓DRW, GA, ren, zG, zd, refs, zb, cst, zl, zM, z7, E.load, E.store, zL, isC, bin, zN, zO, una, z8, za, zh, zP, blt, fnV, asArg, ze, zn, zo, zj, zm, zg, zk, zu, z6, zK, zJ, E.mkS, zc, unN, zQ, zi, zw, zq, zC, zI, zf, zR, zr, GS, simprocAttr, GZ, d1, d2, d3, L1, y6]
     · simp only [cond_true] at L1
       cases hs : rB a.pre b.pre <;> rw [hs] at L2 <;> simp only at L2 <;> cases h4 : (a.pre == []) <;> cases h5 : (b.pre == []) <;> rw [h4] at e1 <;> rw [h5] at e2
       all_goals
        apply zz
        refine zA rfl Tryz.func72 rfl (by kernel_rfl) ?_
        unfold Tryz.f72
        simp (disch := ((try simp only [LL]); omega)) only [↓GO, ↓DRW, GA, ren, zG, zd, refs, zb, cst, zl, zM, z7, E.load, E.store, zL, isC, bin, zN, zO, una, z8, za, zh, zP, blt, fnV, asArg, ze, zn, zo, zj, zm, zg, zk, zu, z6, zK, zJ, E.mkS, zc, unN, zQ, zi, zw, zq, zC, zI, zf, zR, zr, GS, simprocAttr, GZ, d1, d2, d3, d4, d5, L1, L2, hm, zH, e1, e2, bne, Bool.beq_eq_decide_eq, y6]
        refine yZ (by kernel_rfl) ?_
        simp (disch := ((try simp only [LL]); omega)) only [↓GO, ↓DRW, GA, ren, zG, zd, refs, zb, cst, zl, zM, z7, E.load, E.store, zL, isC, bin, zN, zO, una, z8, za, zh, zP, blt, fnV, asArg, ze, zn, zo, zj, zm, zg, zk, zu, z6, zK, zJ, E.mkS, zc, unN, zQ, zi, zw, zq, zC, zI, zf, zR, zr, GS, simprocAttr, GZ, d1, d2, d3, d4, d5, L1, L2, hm, zH, e1, e2, bne, y6, Option.getD_some, Option.getD_none]
theorem YE (a b : Str) (ha : a.length ≤ 1048700) (hb : b.length ≤ 1048700) : zE (EV Tryz.prog pol) 97 [.t (.str a), .t (.str b)] = some (.t (.int .i64 (od (zx a).1 (zx b).1))) := by
 have d1 := lX a ha
 have d2 := lX b hb
 have d3 := Rf (zx a).1 (zx b).1 (yO a ha).1 (yO b hb).1
 unfold rvT at d1 d2
 generalize od (zx a).1 (zx b).1 = n at *
 generalize (zx a).1 = va at *
 generalize (zx b).1 = vb at *
 simp only [Ver.enc, List.map_cons, List.map_nil] at d1 d2 d3
 apply zz
 refine zA rfl Tryz.func97 rfl (by kernel_rfl) ?_
 unfold Tryz.f97
 simp (disch := ((try simp only [LL]); omega)) only [↓GO, ↓DRW, GA, ren, zG, zd, refs, zb, cst, zl, zM, z7, E.load, E.store, zL, isC, bin, zN, zO, una, z8, za, zh, zP, blt, fnV, asArg, ze, zn, zo, zj, zm, zg, zk, zu, z6, zK, zJ, E.mkS, zc, unN, zQ, zi, zw, zq, zC, zI, zf, zR, zr, GS, simprocAttr, GZ, d1, d2, d3, y6]
end Go.Proofs.YtijninlbpifonaaGreatDoor
/- What one reaches in a graph, plain: both ways come to the same. Conditions: none. -/
namespace Go.Proofs.YtijninlbpifonaaGreatDoor
open E
set_option linter.unusedVariables false
set_option linter.unusedSimpArgs false
set_option maxRecDepth 100000
theorem Vs {x y : Str} (h1 : Op.bytesLess x y = false) (h2 : Op.bytesLess y x = false) : x = y := by
 have h := iQ x y
 rw [h1, h2] at h
 simpa using h
theorem pQ : ∀ {x y z : Str}, Op.bytesLess x y = true → Op.bytesLess y z = true → Op.bytesLess x z = true
 | [], [], z, h1, _ => by simp [Op.bytesLess] at h1
 | _ :: _, [], z, h1, _ => by simp [Op.bytesLess] at h1
 | [], _ :: _, [], _, h2 => by simp [Op.bytesLess] at h2
 | [], _ :: _, _ :: _, _, _ => by simp [Op.bytesLess]
 | _ :: _, _ :: _, [], _, h2 => by simp [Op.bytesLess] at h2
 | a :: x, b :: y, c :: z, h1, h2 => by
  rw [v7] at h1 h2 ⊢
  simp only [Bool.or_eq_true, decide_eq_true_eq, Bool.and_eq_true, beq_iff_eq, UInt8.lt_iff_toNat_lt] at h1 h2 ⊢
  rcases h1 with h1 | ⟨rfl, h1⟩
  · rcases h2 with h2 | ⟨rfl, h2⟩
    · left; omega
    · left; exact h1
  · rcases h2 with h2 | ⟨rfl, h2⟩
    · left; exact h2
    · right; exact ⟨rfl, pQ h1 h2⟩
end Go.Proofs.YtijninlbpifonaaGreatDoor
/- Versions in order, plain: one order, all that is sorted is the same. Conditions: none. -/
namespace Go.Proofs.YtijninlbpifonaaGreatDoor
open E
set_option linter.unusedVariables false
set_option linter.unusedSimpArgs false
set_option maxRecDepth 100000
structure Cmp {α : Type} (p : α → Prop) (c : α → α → Int) : Prop where
 anti : ∀ x y, p x → p y → c y x = - c x y
 trans : ∀ x y z, p x → p y → p z → c x y < 0 → c y z < 0 → c x z < 0
 sep : ∀ x y, p x → p y → c x y = 0 → x = y
theorem Cmp.refl {α : Type} {p : α → Prop} {c : α → α → Int} (h : Cmp p c) {x : α} (hx : p x) : c x x = 0 := by
 have := h.anti x x hx hx; omega
theorem Cmp.RW {α β : Type} {p : β → Prop} {c : β → β → Int} (h : Cmp p c) (f : α → β) (q : α → Prop) (hp : ∀ x, q x → p (f x)) (hi : ∀ x y, q x → q y → f x = f y → x = y) : Cmp q fun x y => c (f x) (f y) :=
 ⟨fun x y hx hy => h.anti _ _ (hp x hx) (hp y hy), fun x y z hx hy hz => h.trans _ _ _ (hp x hx) (hp y hy) (hp z hz), fun x y hx hy e => hi x y hx hy (h.sep _ _ (hp x hx) (hp y hy) e)⟩
theorem Cmp.lex {α β : Type} {p : α → Prop} {q : β → Prop} {c : α → α → Int} {d : β → β → Int} (h : Cmp p c) (k : Cmp q d) : Cmp (fun x : α × β => p x.1 ∧ q x.2) fun x y => cond (c x.1 y.1 == 0) (d x.2 y.2) (c x.1 y.1) := by
 refine ⟨fun x y hx hy => ?_, fun x y z hx hy hz h1 h2 => ?_, fun x y hx hy e => ?_⟩
 · have ha := h.anti x.1 y.1 hx.1 hy.1
   cases hc : (c x.1 y.1 == 0) with
   | true =>
    have h0 : c x.1 y.1 = 0 := by simpa using hc
    rw [ha, h0, show ((-0 : Int) == 0) = true from rfl, cond_true, cond_true]
    exact k.anti _ _ hx.2 hy.2
   | false =>
    have h0 : c x.1 y.1 ≠ 0 := by simpa using hc
    have h1 : (c y.1 x.1 == 0) = false := by rw [beq_eq_false_iff_ne, ha]; omega
    rw [h1, cond_false, cond_false, ha]
 · cases hxy : (c x.1 y.1 == 0) with
   | true =>
    have e1 := h.sep _ _ hx.1 hy.1 (by simpa using hxy)
    rw [hxy, cond_true] at h1
    rw [e1]
    cases hyz : (c y.1 z.1 == 0) with
    | true => rw [hyz, cond_true] at h2; rw [cond_true]; exact k.trans _ _ _ hx.2 hy.2 hz.2 h1 h2
    | false => rw [hyz, cond_false] at h2; rw [cond_false]; exact h2
   | false =>
    rw [hxy, cond_false] at h1
    cases hyz : (c y.1 z.1 == 0) with
    | true =>
     have e1 := h.sep _ _ hy.1 hz.1 (by simpa using hyz)
     rw [← e1, hxy, cond_false]; exact h1
    | false =>
     rw [hyz, cond_false] at h2
     have h3 := h.trans _ _ _ hx.1 hy.1 hz.1 h1 h2
     have : (c x.1 z.1 == 0) = false := by rw [beq_eq_false_iff_ne]; omega
     rw [this, cond_false]; exact h3
 · cases hc : (c x.1 y.1 == 0) with
   | true =>
    rw [hc, cond_true] at e
    have e1 := h.sep _ _ hx.1 hy.1 (by simpa using hc)
    have e2 := k.sep _ _ hx.2 hy.2 e
    exact Prod.ext e1 e2
   | false => rw [hc, cond_false] at e; rw [e] at hc; cases hc
theorem uc {a b : Int} : yR a b < 0 ↔ a < b := by
 unfold yR
 by_cases h1 : a < b
 · simp [h1]
 · by_cases h2 : b < a
   · simp [h1, h2]
   · simp [h1, h2]
theorem uK (a b : Int) : yR b a = - yR a b := by
 unfold yR
 by_cases h1 : a < b
 · have h2 : ¬ b < a := by omega
   simp [h1, h2]
 · by_cases h2 : b < a
   · simp [h1, h2]
   · simp [h1, h2]
theorem w4 : Cmp (fun _ => True) yR :=
 ⟨fun x y _ _ => uK x y, fun x y z _ _ _ h1 h2 => by rw [uc] at *; omega, fun x y _ _ e => by have := vw x y; rw [e] at this; simpa using this.symm⟩
theorem SX {a b : Str} : rV a b < 0 ↔ Op.bytesLess a b = true := by
 unfold rV
 cases Op.bytesLess a b with
 | true => simp
 | false => cases (a == b) <;> simp
theorem o7 : Cmp (fun _ => True) rV := by
 refine ⟨fun x y _ _ => ?_, fun x y z _ _ _ h1 h2 => ?_, fun x y _ _ e => ?_⟩
 · unfold rV
   cases h1 : Op.bytesLess x y with
   | true =>
    have h2 : Op.bytesLess y x = false := by
     cases h : Op.bytesLess y x with
     | false => rfl
     | true => have := pQ h1 h; rw [rr] at this; cases this
    have h3 : (y == x) = false := by
     rw [beq_eq_false_iff_ne]; intro e; subst e; rw [rr] at h1; cases h1
    rw [h2, h3]; rfl
   | false =>
    cases h2 : Op.bytesLess y x with
    | true =>
     have h3 : (x == y) = false := by
      rw [beq_eq_false_iff_ne]; intro e; subst e; rw [rr] at h2; cases h2
     rw [h3]; rfl
    | false =>
     have := Vs h1 h2
     subst this
     simp
 · rw [SX] at *; exact pQ h1 h2
 · unfold rV at e
   cases h1 : Op.bytesLess x y with
   | true => rw [h1] at e; cases e
   | false =>
    rw [h1] at e
    cases h2 : (x == y) with
    | true => simpa using h2
    | false => rw [h2] at e; cases e
/-- a part's place: a number ahead of all words -/
theorem uJ : Cmp (fun _ => True) ub := by
 have inj : ∀ {x y : Str}, 0 ≤ zF x → zF x = zF y → x = y := fun {x y} h e => by
  have h1 := (yX h).2.1
  have h2 := (yX (s := y) (by rw [← e]; exact h)).2.1
  rw [← h1, ← h2, e]
 refine ⟨fun x y _ _ => ?_, fun x y z _ _ _ h1 h2 => ?_, fun x y _ _ e => ?_⟩
 · unfold ub
   cases decide (zF x ≥ 0) <;> cases decide (zF y ≥ 0) <;> simp only [Bool.and_true, Bool.and_false, Bool.true_and, Bool.false_and, cond_true, cond_false]
   all_goals first | exact o7.anti x y trivial trivial | exact uK _ _ | rfl
 · unfold ub at *
   cases hx : decide (zF x ≥ 0) <;> cases hy : decide (zF y ≥ 0) <;> cases hz : decide (zF z ≥ 0) <;> simp only [hx, hy, hz, Bool.and_true, Bool.and_false, Bool.true_and, Bool.false_and, cond_true, cond_false] at *
   all_goals first | exact o7.trans x y z trivial trivial trivial h1 h2 | exact w4.trans _ _ _ trivial trivial trivial h1 h2 | omega
 · unfold ub at e
   cases hx : decide (zF x ≥ 0) <;> cases hy : decide (zF y ≥ 0) <;> simp only [hx, hy, Bool.and_true, Bool.and_false, Bool.true_and, Bool.false_and, cond_true, cond_false] at e
   all_goals try omega
   · exact o7.sep x y trivial trivial e
   · exact inj (of_decide_eq_true hx) (w4.sep _ _ trivial trivial e)
theorem tD (a b : Str) (l m : List Str) : vg (a :: l) (b :: m) = cond (ub a b == 0) (vg l m) (ub a b) := by
 unfold vg
 rw [uf]
 cases (ub a b == 0) with
 | true =>
  simp only [cond_true, List.length_cons]
  cases uf l m with
  | some x => rfl
  | none =>
   simp only [Option.getD_none]
   unfold yR
   rw [show decide (((l.length + 1 : Nat) : Int) < ((m.length + 1 : Nat) : Int)) = decide ((l.length : Int) < (m.length : Int)) by rw [Bool.eq_iff_iff]; simp,
    show decide (((l.length + 1 : Nat) : Int) > ((m.length + 1 : Nat) : Int)) = decide ((l.length : Int) > (m.length : Int)) by rw [Bool.eq_iff_iff]; simp]
 | false => rfl
theorem r6 (m : List Str) : vg [] m = yR 0 (m.length : Int) := by unfold vg uf; rfl
theorem wM (l : List Str) : vg l [] = yR (l.length : Int) 0 := by unfold vg uf; cases l <;> rfl
theorem mS : ∀ l m : List Str, vg m l = - vg l m
 | [], m => by rw [r6, wM]; exact uK _ _
 | a :: l, [] => by rw [r6, wM]; exact uK _ _
 | a :: l, b :: m => by
  have h := uJ.anti a b trivial trivial
  rw [tD, tD]
  cases hc : (ub a b == 0) with
  | true =>
   have h0 : ub a b = 0 := by simpa using hc
   rw [h, h0, show ((-0 : Int) == 0) = true from rfl, cond_true, cond_true]
   exact mS l m
  | false =>
   have h0 : ub a b ≠ 0 := by simpa using hc
   have h1 : (ub b a == 0) = false := by rw [beq_eq_false_iff_ne, h]; omega
   rw [h1, cond_false, cond_false, h]
theorem jE : ∀ l m : List Str, vg l m = 0 → l = m
 | [], m, e => by
  rw [r6] at e
  have := w4.sep _ _ trivial trivial e
  cases m with
  | nil => rfl
  | cons b m => simp at this; omega
 | a :: l, [], e => by
  rw [wM] at e
  have := w4.sep _ _ trivial trivial e
  simp at this; omega
 | a :: l, b :: m, e => by
  rw [tD] at e
  cases hc : (ub a b == 0) with
  | true =>
   rw [hc, cond_true] at e
   rw [uJ.sep a b trivial trivial (by simpa using hc), jE l m e]
  | false => rw [hc, cond_false] at e; rw [e] at hc; cases hc
theorem nj : ∀ l m k : List Str, vg l m < 0 → vg m k < 0 → vg l k < 0
 | [], [], k, h1, h2 => h2
 | [], b :: m, [], h1, h2 => by rw [wM, uc] at h2; simp at h2; omega
 | [], b :: m, c :: k, h1, h2 => by rw [r6, uc]; simp
 | a :: l, [], k, h1, h2 => by rw [wM, uc] at h1; simp at h1; omega
 | a :: l, b :: m, [], h1, h2 => by rw [wM, uc] at h2; simp at h2; omega
 | a :: l, b :: m, c :: k, h1, h2 => by
  rw [tD] at *
  cases hxy : (ub a b == 0) with
  | true =>
   have e1 := uJ.sep a b trivial trivial (by simpa using hxy)
   subst e1
   rw [hxy, cond_true] at h1
   cases hyz : (ub a c == 0) with
   | true => rw [hyz, cond_true] at h2; rw [cond_true]; exact nj l m k h1 h2
   | false => rw [hyz, cond_false] at h2; rw [cond_false]; exact h2
  | false =>
   rw [hxy, cond_false] at h1
   cases hyz : (ub b c == 0) with
   | true =>
    have e1 := uJ.sep b c trivial trivial (by simpa using hyz)
    subst e1
    rw [hxy, cond_false]; exact h1
   | false =>
    rw [hyz, cond_false] at h2
    have h3 := uJ.trans a b c trivial trivial trivial h1 h2
    have : (ub a c == 0) = false := by rw [beq_eq_false_iff_ne]; omega
    rw [this, cond_false]; exact h3
/-- what stands behind the numbers: nothing is above all -/
def YD (a b : List Str) : Int := cond (a == [] || b == []) (yR (b.length : Int) (a.length : Int)) (vg a b)
theorem bc : Cmp (fun _ => True) YD := by
 refine ⟨fun x y _ _ => ?_, fun x y z _ _ _ h1 h2 => ?_, fun x y _ _ e => ?_⟩
 · unfold YD
   rw [Bool.or_comm]
   cases (x == [] || y == []) with
   | true => exact uK _ _
   | false => exact mS x y
 · unfold YD at *
   cases x with
   | nil =>
    simp only [beq_self_eq_true, Bool.true_or, cond_true, uc, List.length_nil] at h1
    omega
   | cons a x =>
    cases y with
    | nil =>
     simp only [beq_self_eq_true, Bool.true_or, cond_true, uc, List.length_nil] at h2
     omega
    | cons b y =>
     cases z with
     | nil =>
      simp only [beq_self_eq_true, Bool.or_true, cond_true, uc, List.length_nil, List.length_cons]
      omega
     | cons c z =>
      rw [show ((a :: x == []) || (b :: y == [])) = false from rfl, cond_false] at h1
      rw [show ((b :: y == []) || (c :: z == [])) = false from rfl, cond_false] at h2
      rw [show ((a :: x == []) || (c :: z == [])) = false from rfl, cond_false]
      exact nj _ _ _ h1 h2
 · unfold YD at e
   cases x with
   | nil =>
    simp only [beq_self_eq_true, Bool.true_or, cond_true, List.length_nil] at e
    have := w4.sep _ _ trivial trivial e
    cases y with
    | nil => rfl
    | cons b y => simp at this; omega
   | cons a x =>
    cases y with
    | nil =>
     simp only [beq_self_eq_true, Bool.or_true, cond_true, List.length_nil] at e
     have := w4.sep _ _ trivial trivial e
     simp at this; omega
    | cons b y =>
     rw [show ((a :: x == []) || (b :: y == [])) = false from rfl, cond_false] at e
     exact jE _ _ e
theorem Xj : Cmp (fun _ => True) uz := by
 have h := (w4.lex (w4.lex (w4.lex bc))).RW (fun v : Ver => (v.maj, v.min, v.pat, v.pre)) (fun _ => True) (fun _ _ => ⟨trivial, trivial, trivial, trivial⟩) (fun x y _ _ e => by
  obtain ⟨a, b, c, d⟩ := x
  obtain ⟨a', b', c', d'⟩ := y
  simp only [Prod.mk.injEq] at e
  obtain ⟨rfl, rfl, rfl, rfl⟩ := e
  rfl)
 exact h
/-- texts of versions compared -/
def xF (s t : Str) : Int := uz (zx s).1 (zx t).1
theorem yA : Cmp (fun s => isV s = true) xF :=
 Xj.RW (fun s => (zx s).1) _ (fun _ _ => trivial) fun x y hx hy e => by
  have h1 := (yl hx).2.1
  have h2 := (yl hy).2.1
  rw [← h1, ← h2, e]
def rW (l : List Str) : Prop := l.Pairwise fun x y => xF x y < 0
def jU (l : List Str) : Prop := ∀ s ∈ l, isV s = true
theorem rW.uniq : ∀ {a b : List Str}, jU a → jU b → rW a → rW b → (∀ s, s ∈ a ↔ s ∈ b) → a = b
 | [], [], _, _, _, _, _ => rfl
 | [], y :: b, _, _, _, _, h => by have := (h y).2 (by simp); simp at this
 | x :: a, [], _, _, _, _, h => by have := (h x).1 (by simp); simp at this
 | x :: a, y :: b, va, vb, h1, h2, h => by
  obtain ⟨p1, p2⟩ := List.pairwise_cons.1 h1
  obtain ⟨q1, q2⟩ := List.pairwise_cons.1 h2
  have hxy : x = y := by
   rcases List.mem_cons.1 ((h x).1 (by simp)) with e | m1
   · exact e
   · rcases List.mem_cons.1 ((h y).2 (by simp)) with e | m2
     · exact e.symm
     · have a1 := p1 y m2
       have a2 := q1 x m1
       have := yA.anti x y (va x (by simp)) (vb y (by simp))
       omega
  subst hxy
  have hx := va x (by simp)
  have hr := yA.refl hx
  rw [rW.uniq (fun s hs => va s (by simp [hs])) (fun s hs => vb s (by simp [hs])) p2 q2 fun s => ?_]
  constructor
  · intro hs
    rcases List.mem_cons.1 ((h s).1 (by simp [hs])) with rfl | m
    · have := p1 s hs; omega
    · exact m
  · intro hs
    rcases List.mem_cons.1 ((h s).2 (by simp [hs])) with rfl | m
    · have := q1 s hs; omega
    · exact m
/-- where a version goes -/
def xt : List Str → Str → Nat
 | [], _ => 0
 | x :: r, s => cond (decide (xF x s ≥ 0)) 0 (xt r s + 1)
def Yp (l : List Str) (s : Str) : Bool := l[xt l s]? == some s
def tO (l : List Str) (s : Str) : List Str := cond (Yp l s) l (l.take (xt l s) ++ s :: l.drop (xt l s))
theorem iL : ∀ (l : List Str) (s : Str), xt l s ≤ l.length
 | [], s => by simp [xt]
 | x :: r, s => by
  have := iL r s
  rw [xt]
  cases decide (xF x s ≥ 0) with
  | true => simp
  | false => simp only [cond_false, List.length_cons]; omega
theorem j9 (x : Str) (r : List Str) (s : Str) : tO (x :: r) s = cond (decide (xF x s ≥ 0)) (cond (x == s) (x :: r) (s :: x :: r)) (x :: tO r s) := by
 unfold tO Yp
 rw [xt]
 cases decide (xF x s ≥ 0) with
 | true =>
  simp only [cond_true, List.getElem?_cons_zero, List.take_zero, List.drop_zero, List.nil_append]
  rfl
 | false =>
  simp only [cond_false, List.getElem?_cons_succ, List.take_succ_cons, List.drop_succ_cons, List.cons_append]
  cases (r[xt r s]? == some s) <;> rfl
theorem sA : ∀ (l : List Str) (s y : Str), y ∈ tO l s ↔ y ∈ l ∨ y = s
 | [], s, y => by simp [tO, Yp, xt]
 | x :: r, s, y => by
  rw [j9]
  cases decide (xF x s ≥ 0) with
  | true =>
   rw [cond_true]
   cases h2 : (x == s) with
   | true =>
    have : x = s := by simpa using h2
    subst this
    simp only [cond_true, List.mem_cons]
    exact ⟨fun h => .inl h, fun h => h.elim id fun e => .inl e⟩
   | false =>
    rw [cond_false]
    simp only [List.mem_cons]
    constructor
    · rintro (h | h | h)
      · exact .inr h
      · exact .inl (.inl h)
      · exact .inl (.inr h)
    · rintro ((h | h) | h)
      · exact .inr (.inl h)
      · exact .inr (.inr h)
      · exact .inl h
  | false =>
   rw [cond_false]
   simp only [List.mem_cons, sA r s y, or_assoc]
theorem eW : ∀ (l : List Str) (s : Str), jU l → isV s = true → rW l → rW (tO l s)
 | [], s, _, _, _ => by simp [tO, Yp, xt, rW]
 | x :: r, s, hv, hs, h => by
  obtain ⟨p1, p2⟩ := List.pairwise_cons.1 h
  have hx := hv x (by simp)
  rw [j9]
  cases h1 : decide (xF x s ≥ 0) with
  | true =>
   rw [cond_true]
   cases h2 : (x == s) with
   | true => exact h
   | false =>
    rw [cond_false]
    have h3 := of_decide_eq_true h1
    have h4 : xF x s ≠ 0 := fun e => by rw [yA.sep x s hx hs e] at h2; simp at h2
    have h5 := yA.anti x s hx hs
    refine List.pairwise_cons.2 ⟨fun y hy => ?_, h⟩
    rcases List.mem_cons.1 hy with rfl | hy
    · omega
    · exact yA.trans s x y hs hx (hv y (by simp [hy])) (by omega) (p1 y hy)
  | false =>
   rw [cond_false]
   have h3 := of_decide_eq_false h1
   refine List.pairwise_cons.2 ⟨fun y hy => ?_, eW r s (fun z hz => hv z (by simp [hz])) hs p2⟩
   rcases (sA r s y).1 hy with hy | rfl
   · exact p1 y hy
   · omega
/-- the reference's: one by one -/
def yK : List Str → List Str → List Str
 | out, [] => out
 | out, s :: r => yK (cond (isV s) (tO out s) out) r
theorem sM : ∀ (l out : List Str), jU out → rW out → jU (yK out l) ∧ rW (yK out l) ∧ ∀ y, y ∈ yK out l ↔ y ∈ out ∨ (y ∈ l ∧ isV y = true)
 | [], out, h1, h2 => ⟨h1, h2, fun y => by simp [yK]⟩
 | s :: r, out, h1, h2 => by
  rw [yK]
  cases hs : isV s with
  | true =>
   rw [cond_true]
   obtain ⟨k1, k2, k3⟩ := sM r (tO out s) (fun y hy => by
    rcases (sA out s y).1 hy with hy | rfl
    · exact h1 y hy
    · exact hs) (eW out s h1 hs h2)
   refine ⟨k1, k2, fun y => ?_⟩
   rw [k3, sA]
   simp only [List.mem_cons]
   constructor
   · rintro ((h | rfl) | ⟨h, hv⟩)
     · exact .inl h
     · exact .inr ⟨.inl rfl, hs⟩
     · exact .inr ⟨.inr h, hv⟩
   · rintro (h | ⟨rfl | h, hv⟩)
     · exact .inl (.inl h)
     · exact .inl (.inr rfl)
     · exact .inr ⟨h, hv⟩
  | false =>
   rw [cond_false]
   obtain ⟨k1, k2, k3⟩ := sM r out h1 h2
   refine ⟨k1, k2, fun y => ?_⟩
   rw [k3]
   simp only [List.mem_cons]
   constructor
   · rintro (h | ⟨h, hv⟩)
     · exact .inl h
     · exact .inr ⟨.inr h, hv⟩
   · rintro (h | ⟨rfl | h, hv⟩)
     · exact .inl h
     · rw [hs] at hv; cases hv
     · exact .inr ⟨h, hv⟩
/-- neighbours that are one -/
def tT : List Str → List Str
 | [] => []
 | [x] => [x]
 | x :: y :: r => cond (x == y) (tT (y :: r)) (x :: tT (y :: r))
theorem r5 : ∀ (l : List Str) (s : Str), s ∈ tT l ↔ s ∈ l
 | [], s => Iff.rfl
 | [x], s => Iff.rfl
 | x :: y :: r, s => by
  rw [tT]
  have ih := r5 (y :: r) s
  cases h : (x == y) with
  | true =>
   have : x = y := by simpa using h
   subst this
   rw [cond_true, ih]
   simp
  | false => rw [cond_false, List.mem_cons, ih, List.mem_cons (a := s) (b := x)]
theorem jD : ∀ (l : List Str), jU l → (l.Pairwise fun x y => xF x y ≤ 0) → rW (tT l)
 | [], _, _ => by simp [tT, rW]
 | [x], _, _ => by simp [tT, rW]
 | x :: y :: r, hv, h => by
  obtain ⟨p1, p2⟩ := List.pairwise_cons.1 h
  have ih := jD (y :: r) (fun s hs => hv s (by simp at hs ⊢; right; exact hs)) p2
  rw [tT]
  cases hxy : (x == y) with
  | true => exact ih
  | false =>
   rw [cond_false]
   refine List.pairwise_cons.2 ⟨fun z hz => ?_, ih⟩
   rw [r5] at hz
   have hx := hv x (by simp)
   have hy := hv y (by simp)
   have h1 := p1 y (by simp)
   have h2 : xF x y ≠ 0 := fun e => by rw [yA.sep x y hx hy e] at hxy; simp at hxy
   rcases List.mem_cons.1 hz with rfl | hz'
   · omega
   · have h3 := (List.pairwise_cons.1 p2).1 z hz'
     have hzv := hv z (by simp [hz'])
     by_cases h4 : xF y z = 0
     · rw [← yA.sep y z hy hzv h4]; omega
     · exact yA.trans x y z hx hy hzv (by omega) (by omega)
/-- the same, however it is sorted -/
theorem YO (l m : List Str) (hp : m.Perm (l.filter isV)) (hm : m.Pairwise fun x y => xF x y ≤ 0) : tT m = yK [] l := by
 obtain ⟨k1, k2, k3⟩ := sM l [] (fun s hs => by simp at hs) (by simp [rW])
 have hv : jU m := fun s hs => by
  have := hp.mem_iff.1 hs
  exact (List.mem_filter.1 this).2
 refine rW.uniq (fun s hs => hv s ((r5 m s).1 hs)) k1 (jD m hv hm) k2 fun s => ?_
 rw [r5, hp.mem_iff, List.mem_filter, k3]
 simp
end Go.Proofs.YtijninlbpifonaaGreatDoor
/- What is drawn never goes back. Conditions: those of each lemma. -/
namespace Go.Proofs.YtijninlbpifonaaGreatDoor.Dr
open Go
set_option linter.unusedVariables false
set_option linter.unusedSimpArgs false
def rwd {α : Type} : Result α → World
 | .ok _ w => w
 | .halt _ w => w
theorem QK {α : Type} : ∀ (a : Ask α) (w : World), w.drawn ≤ (w.ask a).2.drawn := by
 intro a
 induction a with
 | done a => intro w; exact Nat.le_refl _
 | ask what range k ih =>
  intro w
  unfold World.ask
  simp only
  split
  · exact ih _ w
  · exact Nat.le_trans (Nat.le_succ _) (ih _ { w with drawn := w.drawn + 1 })
theorem UU (w : World) (c : Sys) : w.drawn ≤ (w.sys c).2.drawn := by
 have h := QK (Kernel.perform c w.os) w
 unfold World.sys
 generalize w.ask (Kernel.perform c w.os) = x at h
 obtain ⟨⟨r, os⟩, w'⟩ := x
 cases r <;> first | exact h | exact Nat.le_refl _
theorem TQ {p : Program} {w : World} {at_ : Addr} {u : TypeId} {k : Addr} {v : Value} {b : Bool} {x : World × List Addr} (h : w.viewStore p at_ u k v b = .ok x) : x.1.drawn = w.drawn := by
 unfold World.viewStore at h
 simp only [bind, Except.bind, pure, Except.pure] at h
 repeat' first
  | (cases h; rfl)
  | (cases h; done)
  | split at h
theorem Tq {p : Program} {w : World} {a : Addr} {v : Value} {b : Bool} {x : World × List Addr} (h : w.farStore p a v b = .ok x) : x.1.drawn = w.drawn := by
 unfold World.farStore at h
 split at h
 · split at h
   · rename_i hv
     cases h
     exact TQ hv
   · cases h
 · cases h
theorem ji (w : World) (a : Addr) (n : Nat) : (w.freeze a n).drawn = w.drawn := by
 unfold World.freeze; split <;> rfl
theorem vn {α : Type} (p : Program) : ∀ (m : Sem α) (w : World) (es : Array Event), w.drawn ≤ (rwd (m.runT p w es).1).drawn := by
 intro m
 induction m with
 | pure a => intro w es; exact Nat.le_refl _
 | load m a k ih =>
  intro w es
  unfold Sem.runT
  split
  · exact ih _ _ _
  · split
    · exact ih _ _ _
    · exact Nat.le_refl _
 | store m a v k ih =>
  intro w es
  have key : ∀ v : Value, (∀ x, v ≠ .agg x) → (∀ x, v ≠ .tuple x) → w.drawn ≤ (rwd (Sem.runT p (.store m a v k) w es).1).drawn := fun v h1 h2 => by
   rw [Sem.runT]
   · split
     · split
       · exact Nat.le_refl _
       · exact ih (w.setCell a v) _
     · split
       · rename_i hf
         have := Tq hf
         simp only at this
         rw [← this]
         exact ih _ _
       · exact Nat.le_refl _
   · exact fun x => h1 x
   · exact fun x => h2 x
  cases v with
  | agg x => exact Nat.le_refl _
  | tuple x => exact Nat.le_refl _
  | _ => exact key _ (fun x hx => by cases hx) (fun x hx => by cases hx)
 | new o k ih => intro w es; exact ih w.heap.size { w with heap := w.heap.push o } es
 | shape r k ih => intro w es; exact ih _ _ _
 | freeze a n k ih => intro w es; have := ih (w.freeze a n) es; rw [ji] at this; exact this
 | frozen a k ih => intro w es; exact ih _ _ _
 | getObj r k ih =>
  intro w es
  unfold Sem.runT
  split <;> first | exact Nat.le_refl _ | exact ih _ _ _
 | setObj r o k ih =>
  intro w es
  unfold Sem.runT
  split <;> first | exact Nat.le_refl _ | exact ih { w with heap := w.heap.setIfInBounds r o } _
 | choose q k ih =>
  intro w es
  unfold Sem.runT
  split
  · exact ih _ _ _
  · exact Nat.le_trans (Nat.le_succ _) (ih _ { w with drawn := w.drawn + 1 } _)
 | sys c k ih => intro w es; exact Nat.le_trans (UU w c) (ih _ _ _)
 | program k ih => intro w es; exact ih _ _ _
 | mark mk k ih => intro w es; exact ih _ _
 | halt h => intro w es; exact Nat.le_refl _
theorem UY {α : Type} (p : Program) : ∀ (m : Sem α) (w : World), w.drawn ≤ (rwd (m.run p w)).drawn := by
 intro m
 induction m with
 | pure a => intro w; exact Nat.le_refl _
 | load m a k ih =>
  intro w
  unfold Sem.run
  split
  · exact ih _ _
  · split
    · exact ih _ _
    · exact Nat.le_refl _
 | store m a v k ih =>
  intro w
  have key : ∀ v : Value, (∀ x, v ≠ .agg x) → (∀ x, v ≠ .tuple x) → w.drawn ≤ (rwd (Sem.run p (.store m a v k) w)).drawn := fun v h1 h2 => by
   rw [Sem.run]
   · split
     · split
       · exact Nat.le_refl _
       · exact ih (w.setCell a v)
     · split
       · rename_i hf
         have := Tq hf
         simp only at this
         rw [← this]
         exact ih _
       · exact Nat.le_refl _
   · exact fun x => h1 x
   · exact fun x => h2 x
  cases v with
  | agg x => exact Nat.le_refl _
  | tuple x => exact Nat.le_refl _
  | _ => exact key _ (fun x hx => by cases hx) (fun x hx => by cases hx)
 | new o k ih => intro w; exact ih w.heap.size { w with heap := w.heap.push o }
 | shape r k ih => intro w; exact ih _ _
 | freeze a n k ih => intro w; have := ih (w.freeze a n); rw [ji] at this; exact this
 | frozen a k ih => intro w; exact ih _ _
 | getObj r k ih =>
  intro w
  unfold Sem.run
  split <;> first | exact Nat.le_refl _ | exact ih _ _
 | setObj r o k ih =>
  intro w
  unfold Sem.run
  split <;> first | exact Nat.le_refl _ | exact ih { w with heap := w.heap.setIfInBounds r o }
 | choose q k ih =>
  intro w
  unfold Sem.run
  split
  · exact ih _ _
  · exact Nat.le_trans (Nat.le_succ _) (ih _ { w with drawn := w.drawn + 1 })
 | sys c k ih => intro w; exact Nat.le_trans (UU w c) (ih _ _)
 | program k ih => intro w; exact ih _ _
 | mark mk k ih => intro w; exact ih _
 | halt h => intro w; exact Nat.le_refl _
theorem xb {α : Type} {p : Program} {m : Sem α} {w w' : World} {a : α} (h : m.run p w = .ok a w') : w.drawn ≤ w'.drawn := by
 have := UY p m w
 rw [h] at this; exact this
theorem S2 {α : Type} {p : Program} {m : Sem α} {w w' : World} {a : α} {es es' : Array Event} (h : m.runT p w es = (.ok a w', es')) : w.drawn ≤ w'.drawn := by
 have := vn p m w es
 rw [h] at this; exact this
theorem YW {α : Type} {p : Program} {m : Sem α} {w w' : World} {a : Halt} {es es' : Array Event} (h : m.runT p w es = (.halt a w', es')) : w.drawn ≤ w'.drawn := by
 have := vn p m w es
 rw [h] at this; exact this
theorem aS {α : Type} {p : Program} {m : Sem α} {w w' : World} {a : α} {es : Array Event} (h : (m.runT p w es).1 = .ok a w') : w.drawn ≤ w'.drawn := by
 have := vn p m w es
 rw [h] at this; exact this
theorem VD {α : Type} {p : Program} {m : Sem α} {w w' : World} {a : Halt} {es : Array Event} (h : (m.runT p w es).1 = .halt a w') : w.drawn ≤ w'.drawn := by
 have := vn p m w es
 rw [h] at this; exact this
/-- a goroutine's step does not go back in what is drawn -/
def GE (d : Nat) : GStep → Prop
 | .go _ w _ => d ≤ w.drawn
 | .comm _ _ _ _ w _ => d ≤ w.drawn
 | .spawn _ _ w _ => d ≤ w.drawn
 | .count _ w _ => d ≤ w.drawn
 | .timer _ _ w _ => d ≤ w.drawn
 | .alone _ _ w _ => d ≤ w.drawn
 | .newcoro _ _ _ w _ => d ≤ w.drawn
 | .coroswitch _ _ _ w _ => d ≤ w.drawn
 | .collect _ w _ => d ≤ w.drawn
 | .watch _ w _ => d ≤ w.drawn
 | .ended _ _ _ => True
theorem uV {d : Nat} {es : Array Event} {s : GStep} (h : GE d s) : GE d (s.after es) := by cases s <;> exact h
def SE (d : Nat) : Stepped → Prop
 | .next m => d ≤ m.world.drawn
 | .ended _ _ => True
theorem b9 (d : Nat) (w : World) (fd : Nat) (t : ByteArray) (o : Outcome) : GE d (endWith w fd t o) := by
 unfold endWith
 simp only
 repeat' first | exact trivial | split
theorem VL {d : Nat} {w : World} (h : d ≤ w.drawn) (fr : Frame) (l : List ByteArray) (m : String) (b : Bool) : GE d (dieOf fr l m b w) := h
theorem se {d : Nat} {w : World} (h : d ≤ w.drawn) (fr : Frame) (m : String) : GE d (endThrow fr m w) := h
theorem tZ {d : Nat} {w : World} (h : d ≤ w.drawn) (p : Program) (fr : Frame) (v : Value) : GE d (endPrinting p fr v w) := by
 unfold endPrinting
 simp only
 repeat' first | exact trivial | exact se h _ _ | split
theorem nh {d : Nat} {w : World} (h : d ≤ w.drawn) (p : Program) (fr : Frame) (cs : List Frame) (dy : Option Dying) (m : String) : GE d (endFatal p fr cs dy m w) := by
 unfold endFatal
 simp only
 split
 · rename_i hr; exact VL (Nat.le_trans h (xb hr)) _ _ _ _
 · exact trivial
 · exact trivial
theorem cD {d : Nat} {w : World} (h : d ≤ w.drawn) (p : Program) (fr : Frame) (dy : Dying) (f : Fatal) : GE d (writeOn p fr dy f w) := by
 unfold writeOn
 simp only
 split
 · exact trivial
 · split
   · rename_i hr
     exact Nat.le_trans h (S2 hr)
   · rename_i hr
     exact Nat.le_trans h (YW hr)
   · exact trivial
   · exact trivial
theorem Qn {d : Nat} {w : World} (h : d ≤ w.drawn) (p : Program) (fr : Frame) (dy : Dying) : GE d (die p fr dy w) := by
 unfold die
 split
 · exact cD h _ _ _ _
 · split
   · split
     · exact h
     · exact b9 _ _ _ _ _
   · simp only
     split
     · exact h
     · split
       · rename_i hr; exact Nat.le_trans h (xb hr)
       · exact trivial
     · rename_i t recv name _
       have hx := vn p (invoke (.fn (.method name) #[]) #[.iface t recv]) w #[]
       generalize (invoke (.fn (.method name) #[]) #[.iface t recv]).runT p w #[] = x at hx
       obtain ⟨r, es⟩ := x
       refine uV ?_
       simp only at hx ⊢
       split
       · exact Nat.le_trans h hx
       · exact Nat.le_trans h hx
       · exact trivial
       · exact tZ (Nat.le_trans h hx) _ _ _
       · exact trivial
     · exact trivial
theorem sf {d : Nat} {w : World} (h : d ≤ w.drawn) (p : Program) (b : Bool) (fr : Frame) (cs : List Frame) (dy : Option Dying) (v : Value) : GE d (doReturn p b fr cs dy v w) := by
 unfold doReturn
 repeat' first | exact trivial | exact h | split
theorem nr {d : Nat} {w : World} (h : d ≤ w.drawn) (p : Program) (fr : Frame) (cs : List Frame) (dy : Option Dying) (df : Deferred) : GE d (callDeferred p fr cs dy df w) := by
 unfold callDeferred
 have hx := vn p (invoke df.target df.args) w #[]
 generalize (invoke df.target df.args).runT p w #[] = x at hx
 obtain ⟨r, es⟩ := x
 simp only at hx ⊢
 have hy := Nat.le_trans h hx
 clear hx h
 repeat' first | exact trivial | exact hy | exact nh hy _ _ _ _ _ | exact se hy _ _ | refine uV ?_ | split
theorem YH {d : Nat} {w : World} (h : d ≤ w.drawn) (p : Program) (b : Bool) (fr : Frame) (cs : List Frame) (dy : Option Dying) : GE d (unwind p b fr cs dy w) := by
 unfold unwind
 split
 · rename_i block _ _ _
   have hx := vn p (Instr.takeDeferred block) w #[]
   generalize (Instr.takeDeferred block).runT p w #[] = x at hx
   obtain ⟨r, es⟩ := x
   refine uV ?_
   simp only at hx ⊢
   split
   · exact Nat.le_trans h hx
   · exact trivial
 · exact nr h _ _ _ _ _
 · split
   · exact trivial
   · repeat' first
      | exact trivial
      | exact h
      | (rename_i hr; exact Nat.le_trans h (xb hr))
      | exact tZ h _ _ _
      | split
   · split
     · exact sf h _ _ _ _ _ _
     · rename_i fn _
       have hx := vn p (results fn fr.tmps) w #[]
       generalize (results fn fr.tmps).runT p w #[] = x at hx
       obtain ⟨r, es⟩ := x
       refine uV ?_
       simp only at hx ⊢
       split
       · exact sf (Nat.le_trans h hx) _ _ _ _ _ _
       · exact trivial
       · exact trivial
theorem VJ {d : Nat} {w : World} (h : d ≤ w.drawn) (p : Program) (fr : Frame) (cs : List Frame) (dy : Option Dying) (g : Nat) : GE d (early p fr cs dy g w) := by
 have hn : ∀ w : World, d ≤ w.drawn → GE d (match w.heap[g]? with
  | some (.pending c elem) => .go { frame := fr, callers := cs, status := .running, dying := dy } { w with heap := w.heap.setIfInBounds g (.cells c elem) }
  | _ => .ended (.stuck "early: the variable does not wait" (fr.pos p)) w) := fun w hw => by
  split
  · exact hw
  · exact trivial
 unfold early
 simp only
 repeat' first
  | exact trivial
  | exact hn _ h
  | exact h
  | (rename_i hr; exact hn _ (Nat.le_trans h (xb hr)))
  | (rename_i hr; exact Nat.le_trans h (xb hr))
  | split
theorem lG {d : Nat} {w : World} (h : d ≤ w.drawn) (p : Program) (b l : Bool) (fr : Frame) (cs : List Frame) (dy : Option Dying) (s : Sem Next) : GE d (stepG.apply p l fr cs dy s w) := by
 unfold stepG.apply
 have hx : w.drawn ≤ (rwd ((if l = true then s.runT p w #[] else (s.run p w, #[])).1)).drawn := by
  split
  · exact vn p s w #[]
  · exact UY p s w
 generalize (if l = true then s.runT p w #[] else (s.run p w, #[])) = x at hx
 obtain ⟨r, es⟩ := x
 simp only at hx ⊢
 have hy := Nat.le_trans h hx
 clear hx h
 refine uV ?_
 repeat' first | exact trivial | exact hy | exact nh hy _ _ _ _ _ | exact se hy _ _ | exact VJ hy _ _ _ _ _ | split
theorem S9 {d : Nat} {w : World} (h : d ≤ w.drawn) (p : Program) (l : Bool) (fr : Frame) (cs : List Frame) (dy : Option Dying) : GE d (stepG.oper p l fr cs dy w) := by
 unfold stepG.oper
 split
 · exact trivial
 · split <;> exact lG h p true l _ _ _ _
theorem SO {d : Nat} {w : World} (h : d ≤ w.drawn) (p : Program) (b l : Bool) (fr : Frame) (cs : List Frame) (dy : Option Dying) : GE d (stepG.exec p b l fr cs dy w) := by
 unfold stepG.exec
 simp only
 repeat' first
  | exact trivial
  | exact h
  | exact lG h _ true _ _ _ _ _
  | exact S9 h _ _ _ _ _
  | exact sf (Nat.le_trans h (aS (by assumption))) _ _ _ _ _ _
  | exact lG (Nat.le_trans h (aS (by assumption))) _ true _ _ _ _ _
  | exact Nat.le_trans h (aS (by assumption))
  | exact Nat.le_trans h (VD (by assumption))
  | exact Nat.le_trans h (xb (by assumption))
  | refine uV ?_
  | split
  | (unfold Option.elim; split)
theorem V6 (p : Program) (b : Bool) (g : Goroutine) (w : World) (l : Bool) : GE w.drawn (stepG p b g w l) := by
 unfold stepG
 simp only
 split
 · exact Qn (Nat.le_refl _) _ _ _
 · exact SO (Nat.le_refl _) _ _ _ _ _ _
 · exact YH (Nat.le_refl _) _ _ _ _ _
theorem nV (p : Program) (rest : Rest) (gs : Array Goroutine) (i : Nat) (g : Goroutine) (cases : Array CommCase) (blocking : Bool) (shape : CommShape) {d : Nat} {w : World} (h : d ≤ w.drawn) : SE d (communicate p rest gs i g cases blocking shape w).1 := by
 have hw : ∀ w', waitingAt rest cases w = some w' → w'.drawn = w.drawn := fun w' hw => by
  unfold waitingAt at hw
  repeat' first | (cases hw; rfl) | (cases hw; done) | split at hw
 unfold communicate
 simp only
 repeat' first
  | exact trivial
  | exact h
  | (simp only [SE]; first
   | exact h
   | exact Nat.le_trans h (Nat.le_of_eq (hw _ (by assumption)).symm)
   | exact Nat.le_trans h (xb (by assumption))
   | exact Nat.le_trans h (Nat.le_trans (xb (by assumption)) (xb (by assumption))))
  | split
theorem ZF (p : Program) (gs : Array Goroutine) (rest : Rest) {d : Nat} {w : World} (h : d ≤ w.drawn) : SE d (look p gs rest w) := by
 unfold look
 simp only
 repeat' first
  | exact trivial
  | (simp only [SE]; exact Nat.le_trans h (xb (by assumption)))
  | split
theorem V2 {m m' : Machine} {op : TimerOp} {v : Value} (h : timerOp m op = .ok (v, m')) : m'.world.drawn = m.world.drawn := by
 have hdr : ∀ (w : World) (c : Nat), (drain w c).2.drawn = w.drawn := fun w c => by unfold drain; split <;> rfl
 have hre : ∀ (m : Machine) (k : Nat) (t : Timer) (a b : Nat), (retime m k t a b).2.world.drawn = m.world.drawn := fun m k t a b => by
  unfold retime
  simp only
  split
  · exact hdr _ _
  · rfl
 have hnm : ∀ (m0 : Machine) (var : Addr) (f : Nat → Timer → Value × Machine) (v : Value) (m' : Machine), timerOp.named m0 var f = .ok (v, m') → (∀ k t, (f k t).2.world.drawn = m.world.drawn) → m'.world.drawn = m.world.drawn := fun m0 var f v m' hx hf => by
  unfold timerOp.named at hx
  split at hx
  · rename_i k _
    have h1 := hf k (m0.rest.timers.getD k default)
    simp only [Except.ok.injEq] at hx
    rw [hx] at h1
    exact h1
  · cases hx
 unfold timerOp at h
 split at h
 · split at h
   · simp only [Except.ok.injEq, Prod.mk.injEq] at h; obtain ⟨_, rfl⟩ := h; rfl
   · split at h
     · split at h
       · cases h
       · simp only [Except.ok.injEq, Prod.mk.injEq] at h; obtain ⟨_, rfl⟩ := h; rfl
     · cases h
 · exact hnm _ _ _ _ _ h fun k t => hre _ _ _ _ _
 · split at h
   · rename_i m1 ho
     have : m1.world.drawn = m.world.drawn := by
      unfold timerOp.opened at ho
      repeat' first | (cases ho; rfl) | (cases ho; done) | split at ho
     exact hnm _ _ _ _ _ h fun k t => (hre _ _ _ _ _).trans this
   · cases h
 · simp only [Except.ok.injEq, Prod.mk.injEq] at h; obtain ⟨_, rfl⟩ := h; rfl
theorem Ve (p : Program) {d : Nat} {m : Machine} (k : Nat) (h : d ≤ m.world.drawn) : SE d (serve p m k) := by
 unfold serve
 simp only
 repeat' first | exact trivial | exact h | split
def ME (d : Nat) : Move → Prop
 | .goroutine m _ => d ≤ m.world.drawn
 | .machine s _ => SE d s
theorem Zc {α β : Type} {p : Program} {r : Sem α} {s : Sem β} {w0 w1 w2 : World} {gs : Array Goroutine} {rest : Rest} {t : Nat} {k : α} {n : β} (h1 : r.run p w0 = .ok k w1) (h2 : s.run p (Machine.advanceTo { world := w1, gs, rest } t).world = .ok n w2) : w0.drawn ≤ w2.drawn :=
 by have h3 := xb h2; exact Nat.le_trans (xb h1) h3
theorem lE (p : Program) {d : Nat} {m : Machine} (h : d ≤ m.world.drawn) : ME d (askOn p m) := by
 unfold askOn
 simp only
 split
 · exact trivial
 · rename_i k w1 h1
   have d1 := Nat.le_trans h (xb h1)
   clear h1 h
   split
   · exact Ve p _ d1
   · repeat' first
      | exact trivial
      | (simp only [ME, SE, Machine.advanceTo]; first
       | exact d1
       | exact Nat.le_trans d1 (xb (by assumption))
       | exact Nat.le_trans d1 (Zc (by assumption) (by assumption))
       | exact Nat.le_trans d1 (Nat.le_trans (Zc (by assumption) (by assumption)) (xb (by assumption)))
       | exact Nat.le_trans d1 (Nat.le_trans (xb (by assumption)) (xb (by assumption)))
       | exact Nat.le_trans d1 (Nat.le_trans (xb (by assumption)) (Nat.le_trans (xb (by assumption)) (xb (by assumption)))))
      | split
theorem QL (p : Program) {d : Nat} {m : Machine} (h : d ≤ m.world.drawn) : ME d (ask p m) := by
 unfold ask
 split
 · split
   · exact trivial
   · rename_i w h1
     have hl := ZF p m.gs m.rest (Nat.le_trans h (xb h1))
     split
     · rename_i m' hm
       rw [hm] at hl
       exact lE p hl
     · exact hl
   · rename_i h1
     exact lE p (Nat.le_trans h (xb h1))
 · exact lE p h
theorem Sn (p : Program) {d : Nat} {m : Machine} (h : d ≤ m.world.drawn) : ME d (move p m) := by
 unfold move
 repeat' first | exact trivial | exact h | exact QL p h | split
theorem S3 (p : Program) (m : Machine) (i : Nat) (b : Bool) : SE m.world.drawn (runT p m i b).1 := by
 simp only [runT]
 generalize m.gs.swapAt! _ _ = gg
 have hg := V6 p (i == 0) gg.1 m.world b
 generalize stepG p _ gg.1 m.world b = s at hg
 cases s with
 | ended o w es => exact trivial
 | comm g cs bl sh w es => exact nV _ _ _ _ _ _ _ _ hg
 | go g w es => exact hg
 | spawn g c w es => exact hg
 | count g w es => simp only; split <;> first | exact trivial | exact hg
 | alone g on w es => exact hg
 | collect g w es => exact ZF _ _ _ hg
 | watch g w es => exact hg
 | newcoro g c d w es => exact hg
 | coroswitch g c e w es =>
  simp only
  repeat' first | exact trivial | exact hg | split
 | timer g op w es =>
  simp only
  split
  · rename_i ht
    have := V2 ht
    exact Nat.le_trans hg (Nat.le_of_eq this.symm)
  · repeat' first | exact trivial | exact hg | split
  · exact trivial
  · exact trivial
theorem TW (p : Program) (m : Machine) : SE m.world.drawn (step p m) := by
 unfold step stepT
 have h := Sn p (Nat.le_refl m.world.drawn)
 split
 · rename_i m' i hm
   rw [hm] at h
   have h2 := S3 p m' i true
   generalize (runT p m' i true).1 = s at h2
   cases s with
   | next m2 => exact Nat.le_trans h h2
   | ended o w => exact trivial
 · rename_i hm
   rw [hm] at h
   exact h
theorem Zd (p : Program) : ∀ (n : Nat) (m m' : Machine), runN p n m = .next m' → m.world.drawn ≤ m'.world.drawn
 | 0, m, m', h => by cases h; exact Nat.le_refl _
 | n + 1, m, m', h => by
  unfold runN at h
  have hs := TW p m
  split at h
  · rename_i m1 h1
    rw [h1] at hs
    exact Nat.le_trans hs (Zd p n m1 m' h)
  · rename_i hx
    exact absurd h (hx m')
/-- a call does not go back in what is drawn -/
theorem gU {P : Program} {f : FuncId} {args : Array Value} {w : World} {Q : Ending → World → Prop} (h : Calls P f args w Q) (hQ : ∀ e w', Q e w' → ∃ v, e = .returned v) : Calls P f args w fun e w' => Q e w' ∧ w.drawn ≤ w'.drawn := by
 intro cs
 obtain ⟨e, w', fr, h1, h2, h3, h4⟩ := h cs
 refine ⟨e, w', fr, ⟨h1, ?_⟩, h2, h3, h4⟩
 obtain ⟨v, rfl⟩ := hQ e w' h1
 obtain ⟨n, hn⟩ := h2
 exact Zd P n _ _ hn
end Go.Proofs.YtijninlbpifonaaGreatDoor.Dr
/- What is shown by other means, more of it: answers stay. Conditions: those of each lemma. -/
namespace Go.Proofs.YtijninlbpifonaaGreatDoor.E
set_option linter.unusedVariables false
set_option linter.unusedSimpArgs false
variable {P : Program}
section
variable {pm : Nat → Nat → PM} {live outs : Nat → Nat → List Nat} {no no2 dr ow : Nat → Bool} {ext : Nat → List V → Option V} {extO extO2 : Nat → List V → Heap → Option (V × Heap)} {gh : Nat → Nat → List Gh} {dm : Nat → Nat → Bool}
theorem mJ (rec : Rec) (f : Nat) (N : Option Nat) (ops : Array Oper) (o : Oper) (e : Env) (h : Heap) : vB P ⟨pm, live, outs, no, dr, ext, extO, ow, gh, dm⟩ rec f N ops o e h = vB P ⟨pm, live, outs, no2, dr, ext, extO2, ow, gh, dm⟩ rec f N ops o e h := rfl
theorem nf (rec : Rec) (f : Nat) (ops : Array Oper) (o : Oper) (e : Env) (h : Heap) : xM P ⟨pm, live, outs, no, dr, ext, extO, ow, gh, dm⟩ rec f ops o e h = xM P ⟨pm, live, outs, no2, dr, ext, extO2, ow, gh, dm⟩ rec f ops o e h := rfl
theorem mH (rec : Rec) (f : Nat) (ops : Array Oper) : ∀ (l : List Oper) (e : Env) (h : Heap), td P ⟨pm, live, outs, no, dr, ext, extO, ow, gh, dm⟩ rec f ops l e h = td P ⟨pm, live, outs, no2, dr, ext, extO2, ow, gh, dm⟩ rec f ops l e h
 | [], e, h => rfl
 | o :: l, e, h => by
  simp only [td, nf (no2 := no2) (extO2 := extO2) (no := no) (extO := extO)]
  cases xM P ⟨pm, live, outs, no2, dr, ext, extO2, ow, gh, dm⟩ rec f ops o e h with
  | none => rfl
  | some x => exact mH rec f ops l x.1 x.2
theorem oZ (rec : Rec) (f : Nat) (ops : Array Oper) : ∀ (l : List Oper) (e : Env) (h : Heap), w7 P ⟨pm, live, outs, no, dr, ext, extO, ow, gh, dm⟩ rec f ops l e h = w7 P ⟨pm, live, outs, no2, dr, ext, extO2, ow, gh, dm⟩ rec f ops l e h
 | [], e, h => rfl
 | o :: l, e, h => by
  simp only [w7, mJ (no2 := no2) (extO2 := extO2) (no := no) (extO := extO)]
  cases vB P ⟨pm, live, outs, no2, dr, ext, extO2, ow, gh, dm⟩ rec f none ops o e h with
  | none => rfl
  | some x => exact oZ rec f ops l x.1 x.2
theorem dF (rec : Rec) (f : Nat) (ops : Array Oper) : ∀ (Ns : List (Option Nat)) (l : List Oper) (e : Env) (h : Heap), evD P ⟨pm, live, outs, no, dr, ext, extO, ow, gh, dm⟩ rec f ops Ns l e h = evD P ⟨pm, live, outs, no2, dr, ext, extO2, ow, gh, dm⟩ rec f ops Ns l e h
 | [], [], e, h => rfl
 | [], _ :: _, e, h => rfl
 | _ :: _, [], e, h => rfl
 | N :: Ns, o :: l, e, h => by
  simp only [evD, mJ (no2 := no2) (extO2 := extO2) (no := no) (extO := extO)]
  cases vB P ⟨pm, live, outs, no2, dr, ext, extO2, ow, gh, dm⟩ rec f N ops o e h with
  | none => rfl
  | some x => simp only [dF rec f ops Ns l x.1 x.2]
theorem dC (rec : Rec) (f : Nat) (ops : Array Oper) : ∀ (l : List Oper) (e : Env) (h : Heap), evR P ⟨pm, live, outs, no, dr, ext, extO, ow, gh, dm⟩ rec f ops l e h = evR P ⟨pm, live, outs, no2, dr, ext, extO2, ow, gh, dm⟩ rec f ops l e h
 | [], e, h => rfl
 | o :: l, e, h => by
  simp only [evR, nf (no2 := no2) (extO2 := extO2) (no := no) (extO := extO)]
  cases xM P ⟨pm, live, outs, no2, dr, ext, extO2, ow, gh, dm⟩ rec f ops o e h with
  | none => rfl
  | some x => simp only [dC rec f ops l x.1 x.2]
theorem pN (f : Nat) : ∀ (b : Nat) (l : List Oper), wI ⟨pm, live, outs, no, dr, ext, extO, ow, gh, dm⟩ f b l = wI ⟨pm, live, outs, no2, dr, ext, extO2, ow, gh, dm⟩ f b l
 | _, [] => rfl
 | b, o :: l => by
  simp only [wI, show x7 ⟨pm, live, outs, no, dr, ext, extO, ow, gh, dm⟩ f o = x7 ⟨pm, live, outs, no2, dr, ext, extO2, ow, gh, dm⟩ f o from rfl, pN f (b + 1) l, pN f b l]
theorem ni (f : Nat) : ∀ (l : List Oper), xZ ⟨pm, live, outs, no, dr, ext, extO, ow, gh, dm⟩ f l = xZ ⟨pm, live, outs, no2, dr, ext, extO2, ow, gh, dm⟩ f l
 | [] => rfl
 | o :: l => by
  simp only [xZ, show x7 ⟨pm, live, outs, no, dr, ext, extO, ow, gh, dm⟩ f o = x7 ⟨pm, live, outs, no2, dr, ext, extO2, ow, gh, dm⟩ f o from rfl, ni f l]
theorem gS (rec : Rec) (f : Nat) (ops : Array Oper) (e : Env) (h : Heap) : vP P ⟨pm, live, outs, no, dr, ext, extO, ow, gh, dm⟩ rec f ops e h = vP P ⟨pm, live, outs, no2, dr, ext, extO2, ow, gh, dm⟩ rec f ops e h := by
 unfold vP
 rw [dF (no2 := no2) (extO2 := extO2), pN (no2 := no2) (extO2 := extO2), ni (no2 := no2) (extO2 := extO2)]
 rfl
theorem VF (rec : Rec) (f : Nat) (ops : Array Oper) (e : Env) (h : Heap) : evZ P ⟨pm, live, outs, no, dr, ext, extO, ow, gh, dm⟩ rec f ops e h = evZ P ⟨pm, live, outs, no2, dr, ext, extO2, ow, gh, dm⟩ rec f ops e h := by
 unfold evZ
 rw [dC (no2 := no2) (extO2 := extO2)]
 rfl
theorem v8 (rec : Rec) (f m : Nat) : ∀ (c : Code) (p : Nat) (e : Env) (h : Heap), evC P ⟨pm, live, outs, no, dr, ext, extO, ow, gh, dm⟩ rec f m c p e h = evC P ⟨pm, live, outs, no2, dr, ext, extO2, ow, gh, dm⟩ rec f m c p e h
 | .skip, p, e, h => rfl
 | .exit _, p, e, h => rfl
 | .ret, p, e, h => rfl
 | .seq a b, p, e, h => by
  simp only [evC, v8 rec f m a (2 * p) e h]
  cases evC P ⟨pm, live, outs, no2, dr, ext, extO2, ow, gh, dm⟩ rec f m a (2 * p) e h with
  | none => rfl
  | some x =>
   obtain ⟨x, e', h'⟩ := x
   cases x with
   | normal => exact v8 rec f m b (2 * p + 1) e' h'
   | _ => rfl
 | .cond c a b, p, e, h => by simp only [evC, v8 rec f m a (2 * p) e h, v8 rec f m b (2 * p + 1) e h]
 | .block id c, p, e, h => by simp only [evC, v8 rec f m c (2 * p) e h]
 | .loop _, p, e, h => rfl
 | .region id ops draw, p, e, h => by
  simp only [evC, gS (no2 := no2) (extO2 := extO2) (no := no) (extO := extO), VF (no2 := no2) (extO2 := extO2) (no := no) (extO := extO), oZ (no2 := no2) (extO2 := extO2) (no := no) (extO := extO), mH (no2 := no2) (extO2 := extO2) (no := no) (extO := extO)]
  rfl
 | .rangeFunc _ _ _ _, p, e, h => rfl
 | .scope _, p, e, h => rfl
 | .label _, p, e, h => rfl
 | .goto _, p, e, h => rfl
 | .refuse _, p, e, h => rfl
theorem YK (hn : ∀ f, no2 f = true → no f = true) (hx : ∀ f, no f = true ∨ ∀ args h, extO2 f args h = extO f args h) (ho : ∀ f, no f = true → (∀ args h, extO2 f args h = extO f args h) ∨ ∀ args h, extO f args h = none) {rec rec2 : Rec} (hr : Le rec rec2) :
 Le (step P ⟨pm, live, outs, no, dr, ext, extO, ow, gh, dm⟩ rec) (step P ⟨pm, live, outs, no2, dr, ext, extO2, ow, gh, dm⟩ rec2) := by
 intro req r h
 refine (pG req).mono rec rec2 hr r ?_
 cases req with
 | call f args hp =>
  simp only [step] at h ⊢
  cases hxx : ext f args with
  | some v => rw [hxx] at h; exact h
  | none =>
   rw [hxx] at h
   simp only at h ⊢
   cases hf : P.funcs[f]? with
   | none => rw [hf] at h; cases h
   | some fn =>
    rw [hf] at h
    simp only at h ⊢
    cases hb : fn.body with
    | none => rw [hb] at h; cases h
    | some c =>
     rw [hb] at h
     simp only at h ⊢
     split at h
     · cases h
     · rename_i hc
       simp only [Bool.or_eq_true, not_or] at hc
       have hc2 : ¬ ((no2 f || fn.name == "runtime.NumGoroutine" || decide (fn.ntmps < args.length)) = true) := by
        simp only [Bool.or_eq_true, not_or]
        exact ⟨⟨fun x => hc.1.1 (hn f x), hc.1.2⟩, hc.2⟩
       rw [if_neg hc2, ← v8 (no := no) (extO := extO)]
       exact h
 | callO gv f args hp =>
  simp only [step] at h ⊢
  by_cases hsame : ∀ args h, extO2 f args h = extO f args h
  · rw [hsame]
    cases hxx : extO f args hp with
    | some v => rw [hxx] at h; exact h
    | none =>
     rw [hxx] at h
     simp only at h ⊢
     cases hf : P.funcs[f]? with
     | none => rw [hf] at h; cases h
     | some fn =>
      rw [hf] at h
      simp only at h ⊢
      cases hb : fn.body with
      | none => rw [hb] at h; cases h
      | some c =>
       rw [hb] at h
       simp only at h ⊢
       split at h
       · cases h
       · rename_i hc
         simp only [Bool.or_eq_true, not_or] at hc
         have hc2 : ¬ ((no2 f || fn.name == "runtime.NumGoroutine" || decide (fn.ntmps < args.length)) = true) := by
          simp only [Bool.or_eq_true, not_or]
          exact ⟨⟨fun x => hc.1.1 (hn f x), hc.1.2⟩, hc.2⟩
         rw [if_neg hc2, ← v8 (no := no) (extO := extO)]
         exact h
  · exfalso
    have hno : no f = true := (hx f).resolve_right hsame
    have hnx := (ho f hno).resolve_left hsame
    rw [hnx] at h
    simp only at h
    cases hf : P.funcs[f]? with
    | none => rw [hf] at h; cases h
    | some fn =>
     rw [hf] at h
     simp only at h
     cases hb : fn.body with
     | none => rw [hb] at h; cases h
     | some c =>
      rw [hb] at h
      simp only [hno, Bool.true_or, if_true] at h
      cases h
 | loop f p m vals hp =>
  simp only [step] at h ⊢
  cases hf : P.funcs[f]? with
  | none => rw [hf] at h; cases h
  | some fn =>
   rw [hf] at h
   simp only at h ⊢
   cases hb : fn.body with
   | none => rw [hb] at h; cases h
   | some c =>
    rw [hb] at h
    simp only at h ⊢
    split at h
    · rw [← v8 (no := no) (extO := extO)]
      exact h
    · cases h
theorem ZQ (hn : ∀ f, no2 f = true → no f = true) (hx : ∀ f, no f = true ∨ ∀ args h, extO2 f args h = extO f args h) (ho : ∀ f, no f = true → (∀ args h, extO2 f args h = extO f args h) ∨ ∀ args h, extO f args h = none) :
 ∀ n, Le (it P ⟨pm, live, outs, no, dr, ext, extO, ow, gh, dm⟩ n) (it P ⟨pm, live, outs, no2, dr, ext, extO2, ow, gh, dm⟩ n)
 | 0 => fun req r h => by cases h
 | n + 1 => YK hn hx ho (ZQ hn hx ho n)
end
/-- what the evaluator answers stays, where more is shown by other means of functions that it did not enter -/
theorem Rs {pol : Pol} {no2 : Nat → Bool} {extO2 : Nat → List V → Heap → Option (V × Heap)} (hn : ∀ f, no2 f = true → pol.no f = true) (hx : ∀ f, pol.no f = true ∨ ∀ args h, extO2 f args h = pol.extO f args h) (ho : ∀ f, pol.no f = true → (∀ args h, extO2 f args h = pol.extO f args h) ∨ ∀ args h, pol.extO f args h = none)
 {req : Req} {r : xA} (h : EV P pol req = some r) : EV P { pol with no := no2, extO := extO2 } req = some r := by
 obtain ⟨pm, live, outs, no, dr, ext, extO, ow, gh, dm⟩ := pol
 obtain ⟨n, hn'⟩ := TL h
 exact Q3 (ZQ hn hx ho n req r hn')
end Go.Proofs.YtijninlbpifonaaGreatDoor.E
/- slices.SortFunc at texts of versions, by the kit's own contract: on rows; what is shown before stays. Conditions: those of each lemma. -/
namespace Go.Proofs.YtijninlbpifonaaGreatDoor
open E
set_option linter.unusedSimpArgs false
set_option linter.unusedVariables false
set_option maxRecDepth 100000
/-- a text of a version, not too long -/
def vok (s : Str) : Bool := isV s && decide (s.length ≤ 1048700)
abbrev VT := { s : Str // vok s = true }
instance : Inhabited VT := ⟨⟨[48, 46, 48, 46, 48], by decide +kernel⟩⟩
def ob (x : VT) : Value := encStr x.1
def cfT (x y : VT) : Int := xF x.1 y.1
theorem VT.v (x : VT) : isV x.1 = true := by
 have := x.2
 unfold vok at this
 simp only [Bool.and_eq_true] at this
 exact this.1
theorem VT.l (x : VT) : x.1.length ≤ 1048700 := by
 have := x.2
 unfold vok at this
 simp only [Bool.and_eq_true, decide_eq_true_eq] at this
 exact this.2
theorem ltT (x y : VT) : ltOf cfT x y = decide (xF x.1 y.1 < 0) := rfl
theorem Rt : Go.Sort.SWO (ltOf cfT) where
 irrefl x := by
  rw [ltT]
  have := yA.refl x.v
  apply decide_eq_false; omega
 trans x y z h1 h2 := by
  rw [ltT] at *
  exact decide_eq_true (yA.trans _ _ _ x.v y.v z.v (of_decide_eq_true h1) (of_decide_eq_true h2))
 ntrans x y z h1 h2 := by
  rw [ltT] at *
  have k1 := of_decide_eq_false h1
  have k2 := of_decide_eq_false h2
  apply decide_eq_false
  intro h3
  by_cases e : xF x.1 y.1 = 0
  · have := yA.sep _ _ x.v y.v e
    rw [this] at h3
    exact k2 h3
  · have h4 := yA.anti _ _ x.v y.v
    exact k2 (yA.trans _ _ _ y.v x.v z.v (by omega) h3)
theorem totT (x y : VT) (h1 : ltOf cfT x y = false) (h2 : ltOf cfT y x = false) : x = y := by
 rw [ltT] at *
 have k1 := of_decide_eq_false h1
 have k2 := of_decide_eq_false h2
 have h4 := yA.anti _ _ x.v y.v
 exact Subtype.ext (yA.sep _ _ x.v y.v (by omega))
def vts (ks : List Str) (h : ks.all vok = true) : List VT := ks.attach.map fun x => ⟨x.1, List.all_eq_true.1 h x.1 x.2⟩
theorem iG (ks : List Str) (h : ks.all vok = true) : (vts ks h).map (·.1) = ks := by
 unfold vts
 rw [List.map_map]
 exact List.attach_map_subtype_val ks
theorem nE (ks : List Str) (h : ks.all vok = true) : (vts ks h).length = ks.length := by
 have := congrArg List.length (iG ks h)
 simpa using this
/-- versions in order -/
def wa (ks : List Str) (h : ks.all vok = true) : List Str := ((vts ks h).mergeSort fun x y => !(ltOf cfT) y x).map (·.1)
theorem pH (ks : List Str) (h : ks.all vok = true) : (wa ks h).length = ks.length := by
 unfold wa
 rw [List.length_map, List.length_mergeSort, nE]
theorem cL (ks : List Str) (h : ks.all vok = true) : (wa ks h).Perm ks := by
 have h1 := (List.mergeSort_perm (vts ks h) fun x y => !(ltOf cfT) y x).map (·.1)
 rw [iG] at h1
 exact h1
theorem YP (ks : List Str) (h : ks.all vok = true) : (wa ks h).Pairwise fun x y => xF x y ≤ 0 := by
 unfold wa
 rw [List.pairwise_map]
 have := List.pairwise_mergeSort (le := fun x y : VT => !(ltOf cfT) y x) (fun a b c h1 h2 => by
  simp only [Bool.not_eq_true'] at *
  exact Rt.ntrans _ _ _ h2 h1) (fun a b => by
  cases h1 : ltOf cfT b a with
  | false => rfl
  | true =>
   have h2 : ltOf cfT a b = false := by
    cases h3 : ltOf cfT a b with
    | false => rfl
    | true => have := Rt.trans _ _ _ h1 h3; rw [Rt.irrefl] at this; cases this
   rw [h2]; rfl) (vts ks h)
 refine this.imp fun {a b} hab => ?_
 simp only [Bool.not_eq_true', ltT] at hab
 have k1 := of_decide_eq_false hab
 have h4 := yA.anti _ _ b.v a.v
 omega
def gl (args : List V) (h : Heap) : Option (V × Heap) :=
 match args, h with
 | [.sl 0 0 n cap, .t (.fn g [])], [.ts 1 es] => match strsOf es with
  | some ks => if hk : ks.all vok = true then (if g = 97 ∧ n = ks.length ∧ ks.length ≤ 1073741824 then some (.tup [], [.ts 1 (strs (wa ks hk))]) else none) else none
  | none => none
 | _, _ => none
theorem SI {W w' : World} (h1 : w'.os = W.os) (h2 : w'.tape = W.tape) (h3 : w'.output = W.output) (h4 : W.heap.size ≤ w'.heap.size) (h5 : ∀ b, b < W.heap.size → w'.heap[b]? = W.heap[b]?) (h6 : W.drawn ≤ w'.drawn) :
 w' = Go.Sort.grow (W.drewN (w'.drawn - W.drawn)) (w'.heap.extract W.heap.size w'.heap.size) := by
 have e : w'.heap = W.heap ++ w'.heap.extract W.heap.size w'.heap.size := by
  apply Array.ext_getElem?
  intro b
  by_cases hb : b < W.heap.size
  · rw [h5 b hb, Array.getElem?_append_left hb]
  · rw [Array.getElem?_append_right (by omega), Array.getElem?_extract]
    by_cases hb2 : b < w'.heap.size
    · rw [if_pos (by omega), show W.heap.size + (b - W.heap.size) = b by omega]
    · rw [if_neg (by omega), Array.getElem?_eq_none (by omega)]
 obtain ⟨hp, tp, dr, os, ou⟩ := w'
 obtain ⟨hp0, tp0, dr0, os0, ou0⟩ := W
 simp only at h1 h2 h3 h4 h6 e
 subst h1; subst h2; subst h3
 unfold Go.Sort.grow World.drewN
 simp only
 rw [← e, show dr0 + (dr - dr0) = dr by omega]
theorem VO {W0 : World} (hL : qz W0) {F : Nat → Prop} {w : World} (hB : wE W0 w F) {blk : Nat} (hblk : W0.heap.size ≤ blk) (off size : Nat) : CmpLays1 Tryz.prog 97 #[] ob cfT blk off size w := by
 intro m os dk hs x y
 have hc := YE x.1 y.1 x.l y.l
 rw [nS (yl x.v).2.2.1 (yl y.v).2.2.1] at hc
 change zE (EV Tryz.prog pol) 97 [.t (.str x.1), .t (.str y.1)] = some (.t (.int .i64 (cfT x y))) at hc
 have hv : EV Tryz.prog pol (.call 97 [.t (.str x.1), .t (.str y.1)] []) = some (.call (.t (.int .i64 (cfT x y))) []) := by
  unfold zE at hc
  split at hc
  · rename_i v hv
    cases hc
    exact hv
  · cases hc
 have hW : wE W0 (_root_.Go.Proofs.sortWorld ob w blk off m dk os) (fun b => b < W0.heap.size) := by
  refine ⟨?_, fun b hb => hb, fun b hb => ?_⟩
  · have := hB.size
    unfold _root_.Go.Proofs.sortWorld Go.Sort.grow
    simp only [Array.size_append]
    have : (Go.Sort.putRow ob (Go.Sort.ahead w m) blk off dk).heap.size = w.heap.size := by simp [Go.Sort.putRow, Go.Sort.mapBlock, Go.Sort.ahead]
    omega
  · have hs := hB.size
    have h0 : (Go.Sort.putRow ob (Go.Sort.ahead w m) blk off dk).heap.size = w.heap.size := by simp [Go.Sort.putRow, Go.Sort.mapBlock, Go.Sort.ahead]
    unfold _root_.Go.Proofs.sortWorld Go.Sort.grow
    simp only
    rw [Array.getElem?_append_left (by omega), ← hB.heap b hb]
    unfold Go.Sort.putRow Go.Sort.mapBlock
    simp only
    rw [Array.getElem?_modify, if_neg (by omega)]
    rfl
 have h := Yt (Ts W0 hL) lM hv (_root_.Go.Proofs.sortWorld ob w blk off m dk os) (fun b => b < W0.heap.size) #[ob x, ob y] hW (fun b hb => Nat.lt_of_lt_of_le hb hW.size) (.cons (.t _ _ (.str _ _ (by simp [ob]))) (.cons (.t _ _ (.str _ _ (by simp [ob]))) .nil))
 refine (Dr.gU h (by rintro e w' ⟨u, F', rfl, _⟩; exact ⟨u, rfl⟩)).mono ?_
 rintro e w' ⟨⟨u, F', rfl, hu, _, hN⟩, hd⟩
 cases hu with
 | t _ _ ht =>
  cases ht
  exact ⟨rfl, _, _, SI hN.os hN.tape hN.output hN.size (fun b hb => hN.keep b hb (Nat.not_le.2 hb)) hd⟩
theorem Tl {w : World} {b o : Nat} {ks : List Str} (h : ks.all vok = true) (hH : Go.Sort.Holds encStr w b o ks.toArray) : Go.Sort.Holds ob w b o (vts ks h).toArray := by
 intro j hj
 have hj' : j < ks.length := by rw [← nE ks h]; simpa using hj
 have hx := hH j (by simpa using hj')
 have hjv : j < (vts ks h).length := by rw [nE]; exact hj'
 have e : (vts ks h)[j].1 = ks[j] := by
  have h1 := congrArg (·[j]?) (iG ks h)
  simp only [List.getElem?_map, List.getElem?_eq_getElem hjv, List.getElem?_eq_getElem hj', Option.map_some] at h1
  exact Option.some.inj h1
 have e1 : ((vts ks h).toArray)[j]! = (vts ks h)[j] := by simp [hjv]
 have e2 : (ks.toArray)[j]! = ks[j] := by simp [hj']
 rw [e2] at hx
 rw [e1]
 unfold ob
 rw [e]
 exact hx
theorem V8 (W0 : World) (hL : qz W0) : tN Tryz.prog W0 198 gl := by
 intro args h v h' hv
 unfold gl at hv
 split at hv
 · rename_i n cap g es
   split at hv
   · rename_i ks hks
     split at hv
     · rename_i hk
       split at hv
       · rename_i hn
         obtain ⟨rfl, hn, hlim⟩ := hn
         cases hv
         obtain rfl := uA hks
         refine ⟨⟨Tryz.f198, Tryz.func198, by kernel_rfl, by kernel_rfl⟩, fun Ow w F ρ us hB hS hO hu => ?_⟩
         obtain ⟨us⟩ := us
         change RVs w F ρ us _ at hu
         cases hu with
         | cons h1 h2 =>
         cases h2 with
         | cons h3 h4 =>
         cases h4
         cases h3 with
         | t _ _ h3 =>
         cases h3 with
         | fn _ _ vs hvs gg hgg hrr =>
         obtain rfl : vs = #[] := Array.eq_empty_of_size_eq_zero (by simpa using hvs)
         subst hn
         have htup' : ∀ {w' : World}, RV w' F ρ (.tuple #[]) (.tup []) := .tup _ _ (fun _ => undef) rfl (fun j hj => by simp at hj) fun j x hj => by simp at hj
         have none_case : ks = [] → ∀ (a : Option Addr) (c : Nat), Calls Tryz.prog 198 #[.slice a 0 c, .func (.func 97) #[] #[]] w fun e w' => ∃ u F' ρ', e = .returned u ∧ RV w' F' ρ' u (.tup []) ∧ St w' F' ρ' Ow [.ts 1 (strs (wa ks hk))] ∧ Nxt Ow w F y7 w' F' y7 ∧ ∀ r l, r < 1 → ρ r = some l → ρ' r = some l := fun hk0 a c => by
          subst hk0
          refine (AnyF.slices_SortFunc_none (P := Tryz.prog) (ρ := Tryz.vC) Tryz.nU a c (.func (.func 97) #[] #[]) w).mono fun e w' hp => ?_
          obtain ⟨rfl, rfl⟩ := hp
          have e0 : wa [] hk = [] := List.eq_nil_of_length_eq_zero (pH [] hk)
          exact ⟨_, F, ρ, rfl, htup', by rw [e0]; exact hS, Nxt.refl _ _ _ _, fun _ _ _ hl => hl⟩
         generalize hkl : ks.length = kl at h1
         cases h1 with
         | slP r cap a hρ hc => exact none_case (List.eq_nil_of_length_eq_zero hkl) a 0
         | sl r off len cap L a c hρ ha hl hnn hc0 hc1 hz =>
          by_cases hk0 : ks = []
          · subst hk0
            simp at hkl
            subst hkl
            exact none_case rfl a c
          · have hpos : 0 < ks.length := by cases ks with | nil => exact absurd rfl hk0 | cons x r => simp
            have hcne : c ≠ 0 := by omega
            obtain rfl := ha.resolve_right hcne
            obtain ⟨hH, hlt, q2, q3, hnF, hput⟩ := Zg hS hk0 hρ
            have hge : W0.heap.size ≤ L.b := Nat.le_of_not_lt fun x => hnF (hB.F _ x)
            have hsz : (vts ks hk).toArray.size = ks.length := by simp [nE]
            have eg : ∀ args w, (callFunc 97 args).run Tryz.prog w = .ok (.enter 97 args) w := enters_of Tryz.func97 (by kernel_rfl) rfl
            refine Calls.mono (by
             have := Any.slices_SortFunc_total Tryz.ke ob (fun _ => rfl) cfT Rt 97 #[] L.b L.o c (vts ks hk).toArray w eg (VO hL hB hge L.o _) (Tl hk hH) hlt (by omega) totT
             rw [hsz, hkl] at this
             rw [show L.o + 0 * L.sz = L.o by omega]
             exact this) fun e w' hp => ?_
            obtain ⟨rfl, q, os, hw'⟩ := hp
            unfold _root_.Go.Proofs.sortWorld at hw'
            rw [Lib.putRow_eq_setCells ob w L.b L.o (vts ks hk).toArray _ q (Tl hk hH) (by simp)] at hw'
            have em : ((vts ks hk).toArray.toList.mergeSort fun x y => !(ltOf cfT) y x).map ob = (wa ks hk).map encStr := by
             unfold wa
             rw [List.map_map]
             rfl
            rw [em] at hw'
            obtain ⟨hS3, hN3⟩ := hput (wa ks hk) q os w' (pH ks hk) hw'
            exact ⟨_, F, ρ, rfl, htup', hS3, hN3, fun _ _ _ hl => hl⟩
       · cases hv
     · cases hv
   · cases hv
 · cases hv
def tL (f : Nat) (args : List V) (h : Heap) : Option (V × Heap) := if f = 198 then gl args h else tQ f args h
noncomputable def wu : Pol := { pol with no := cw.no, extO := tL }
theorem S7 : ∀ f fn c, wu.no f = false → Tryz.prog.funcs[f]? = some fn → fn.body = some c → yV (pr Tryz.prog wu f) fn.ntmps c = true := Zo
theorem SN (W0 : World) (hL : qz W0) : nA Tryz.prog W0 wu := by
 refine ⟨(Ts W0 hL).p, fun g => ?_⟩
 intro args h v h' hv
 have hv' : tL g args h = some (v, h') := hv
 clear hv
 unfold tL at hv'
 by_cases hg : g = 198
 · subst hg
   rw [if_pos rfl] at hv'
   exact V8 W0 hL args h v h' hv'
 · rw [if_neg hg] at hv'
   exact Y7 W0 hL g args h v h' hv'
theorem noS : tQ 198 = fun _ _ => none := by
 funext args h
 unfold tQ
 simp (config := { decide := true }) only [if_true, if_false, reduceIte]
theorem mO {req : Req} {r : xA} (h : EV Tryz.prog pol req = some r) : EV Tryz.prog wu req = some r := by
 refine Rs (pol := pol) (fun f hf => ?_) (fun f => ?_) (fun f hf => ?_) h
 · show (cw.no f || _) = true
   rw [hf]; rfl
 · by_cases hf : f = 198
   · left
     show (cw.no f || f == 198) = true
     rw [hf]; simp
   · right
     intro args hp
     show tL f args hp = tQ f args hp
     unfold tL
     rw [if_neg hf]
 · by_cases hf' : f = 198
   · right
     intro args hp
     subst hf'
     show tQ 198 args hp = none
     rw [noS]
   · left
     intro args hp
     show tL f args hp = tQ f args hp
     unfold tL
     rw [if_neg hf']
theorem mP {g : Nat} {args : List V} {v : V} (h : zE (EV Tryz.prog pol) g args = some v) : zE (EV Tryz.prog wu) g args = some v := by
 unfold zE at h ⊢
 split at h
 · rename_i v' hv
   cases h
   rw [mO hv]
 · cases h
theorem xG : ∀ (rc : Rec) (f m p n : Nat) (fs : List Fr) (k : sL) (e : Env) (h : Heap) (l : List Oper), goC ⟨Tryz.prog, wu, rc, f, m⟩ (.region n l.toArray true) p fs k e h = goD ⟨Tryz.prog, wu, rc, f, m⟩ (l.all (yF wu f)) (oa f && dmT f n) l fs k e h := fun _ _ _ _ _ _ _ _ _ _ => lr _ _ _ _ _ _ _ _ rfl
theorem LVS2 : ∀ f p, wu.live f p = zT f p := fun _ _ => rfl
theorem OVS2 : ∀ f p, wu.outs f p = zS f p := fun _ _ => rfl
theorem PMS2 : ∀ f d, wu.pm f d = pmT f d := fun _ _ => rfl
theorem OWS2 : ∀ f, wu.own f = oa f := fun _ => rfl
theorem DMS2 : ∀ f n, wu.dm f n = dmT f n := fun _ _ => rfl
theorem GHS2 : ∀ f n, wu.gh f n = ghT f n := fun _ _ => rfl
theorem GS2 : type_of% @LVS2 ∧ type_of% @OVS2 ∧ type_of% @LTS ∧ type_of% @TYS ∧ type_of% @PMS2 ∧ type_of% @OWS2 ∧ type_of% @GHS2 ∧ type_of% @DMS2 ∧ type_of% @pmT.eq_1 ∧ type_of% @oa.eq_1 ∧ type_of% @ghT.eq_1 ∧ type_of% @dmT.eq_1 := ⟨@LVS2, @OVS2, @LTS, @TYS, @PMS2, @OWS2, @GHS2, @DMS2, @pmT.eq_1, @oa.eq_1, @ghT.eq_1, @dmT.eq_1⟩
theorem R6 (ks : List Str) (hk : ks.all vok = true) (h : ks.length ≤ 1073741824) (n : Nat) (hn : n = ks.length) (cap : Option Nat) : EV Tryz.prog wu (.callO false 198 [.sl 0 0 n cap, .t (.fn 97 [])] [.ts 1 (strs ks)]) = some (.call (.tup []) [.ts 1 (strs (wa ks hk))]) :=
 gj (x := (.tup [], [.ts 1 (strs (wa ks hk))])) (by
  show tL 198 [.sl 0 0 n cap, .t (.fn 97 [])] [.ts 1 (strs ks)] = _
  unfold tL
  rw [if_pos rfl]
  simp only [gl, vV]
  rw [dif_pos hk, if_pos ⟨trivial, hn, h⟩])
end Go.Proofs.YtijninlbpifonaaGreatDoor
/- Neighbours that are one, as the library's contract says it, plain. Conditions: none. -/
namespace Go.Proofs.YtijninlbpifonaaGreatDoor
open E
set_option linter.unusedVariables false
set_option linter.unusedSimpArgs false
set_option maxRecDepth 100000
def rH : Option Str → List Str → List Str
 | _, [] => []
 | p, x :: r => if p = some x then rH (some x) r else x :: rH (some x) r
theorem mR : ∀ (l : List Str) (p : Option Str) (y : Str), rH p (l ++ [y]) = rH p l ++ if (match l.getLast? with | some z => some z | none => p) = some y then [] else [y]
 | [], p, y => by
  show (if p = some y then [] else [y]) = [] ++ (if p = some y then [] else [y])
  rfl
 | x :: r, p, y => by
  have ih := mR r (some x) y
  have e : (match (x :: r).getLast? with | some z => some z | none => p) = (match r.getLast? with | some z => some z | none => some x) := by
   cases r with
   | nil => rfl
   | cons z r =>
    rw [List.getLast?_cons_cons]
    cases h : (z :: r).getLast? with
    | some w => rfl
    | none => simp at h
  rw [List.cons_append, rH, rH, ih, e]
  split
  · rfl
  · rfl
theorem jC (zs : List Str) : ∀ m, m ≤ zs.length → Lib.compactUpTo zs.toArray m = rH none (zs.take m)
 | 0, _ => by simp [Lib.compactUpTo, rH]
 | m + 1, h => by
  rw [Lib.compactUpTo_succ, jC zs m (by omega)]
  have hm : m < zs.length := by omega
  have e : zs.take (m + 1) = zs.take m ++ [zs[m]] := by rw [List.take_succ_eq_append_getElem hm]
  rw [e, mR]
  congr 1
  have e2 : zs.toArray[m]! = zs[m] := by simp [hm]
  rw [e2]
  cases m with
  | zero => simp [Lib.keeps]
  | succ k =>
   have e3 : (zs.take (k + 1)).getLast? = some zs[k] := by
    rw [List.take_succ_eq_append_getElem (show k < zs.length by omega)]
    exact List.getLast?_concat
   have e4 : zs.toArray[k + 1 - 1]! = zs[k] := by simp [show k < zs.length by omega]
   rw [e3]
   unfold Lib.keeps
   rw [e2, e4]
   by_cases hx : zs[k] = zs[k + 1]
   · simp [hx]
   · have hx' : zs[k + 1] ≠ zs[k] := fun e => hx e.symm
     simp [hx, hx']
theorem Yh : ∀ (x : Str) (r : List Str), tT (x :: r) = x :: rH (some x) r
 | x, [] => rfl
 | x, y :: r => by
  rw [tT, Yh y r, rH]
  cases h : (x == y) with
  | true =>
   have : x = y := by simpa using h
   subst this
   simp
  | false =>
   have : ¬ (some x = some y) := by simpa using h
   rw [if_neg this]
   rfl
theorem Xi (zs : List Str) : Lib.compact zs = tT zs := by
 unfold Lib.compact
 rw [jC zs zs.length (Nat.le_refl _), List.take_length]
 cases zs with
 | nil => rfl
 | cons x r => rw [Yh, rH]; simp
end Go.Proofs.YtijninlbpifonaaGreatDoor
/- The library's searches, at packs and sums. Conditions: those of each lemma. -/
namespace Go.Proofs.YtijninlbpifonaaGreatDoor
open E
set_option linter.unusedSimpArgs false
set_option linter.unusedVariables false
set_option maxRecDepth 100000
end Go.Proofs.YtijninlbpifonaaGreatDoor
/- Packs and graphs, by both. Conditions: those of each lemma. -/
namespace Go.Proofs.YtijninlbpifonaaGreatDoor
open E
set_option linter.unusedSimpArgs false
set_option linter.unusedVariables false
set_option maxRecDepth 100000
/-- graphs of bounded size -/
def GB (g : y8) : Prop := g.yp ≤ 1048576
theorem GB.len {g : y8} (h : GB g) : g.packs.length ≤ 1048576 ∧ g.top.length + yj g.top ≤ 1048576 ∧ ∀ p ∈ g.packs, p.yp ≤ 1048576 := by
 unfold GB y8.yp at h
 refine ⟨by omega, by omega, fun p hp => ?_⟩
 have := zX.yw hp
 omega
end Go.Proofs.YtijninlbpifonaaGreatDoor
/- Is a graph right? By both. Conditions: those of each lemma. -/
namespace Go.Proofs.YtijninlbpifonaaGreatDoor
open E
set_option linter.unusedSimpArgs false
set_option linter.unusedVariables false
set_option maxRecDepth 100000
end Go.Proofs.YtijninlbpifonaaGreatDoor
/- Keys cut, short names, by both. Conditions: those of each lemma. -/
namespace Go.Proofs.YtijninlbpifonaaGreatDoor
open E
set_option linter.unusedSimpArgs false
set_option linter.unusedVariables false
set_option maxRecDepth 100000
end Go.Proofs.YtijninlbpifonaaGreatDoor
/- Who is to blame, plain: both ways come to the same. Conditions: none. -/
namespace Go.Proofs.YtijninlbpifonaaGreatDoor
open E
set_option linter.unusedVariables false
set_option linter.unusedSimpArgs false
set_option maxRecDepth 100000
end Go.Proofs.YtijninlbpifonaaGreatDoor
/- What one reaches, by both: the functions. Conditions: those of each lemma. -/
namespace Go.Proofs.YtijninlbpifonaaGreatDoor
open E
set_option linter.unusedSimpArgs false
set_option linter.unusedVariables false
set_option maxRecDepth 100000
theorem wV {l : List Str} {i : Nat} {s : Str} (h : l[i]? = some s) : (strs l)[i]? = some [.str s] := by simp [strs, h]
end Go.Proofs.YtijninlbpifonaaGreatDoor

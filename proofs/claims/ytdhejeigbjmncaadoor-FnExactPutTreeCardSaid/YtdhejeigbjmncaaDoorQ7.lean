/- The text of a tree, by the reference. Conditions: those of each lemma. -/
import Derived.Test.YtdhejeigbjmncaaDoorQ6
namespace Go.Proofs.YtdhejeigbjmncaaDoor
open E
set_option linter.unusedSimpArgs false
set_option linter.unusedVariables false
set_option maxRecDepth 100000
/-- parts behind a newline, a comma between -/
def jn : List Str → Str
  | [] => []
  | x :: l => 10 :: Lib.join (x :: l) [44, 10]
theorem jn_one (x : Str) : jn [x] = 10 :: x := by simp [jn, Lib.join_cons, Lib.joinTail]
theorem jn_snoc (x : Str) (l : List Str) (y : Str) : jn (x :: l ++ [y]) = jn (x :: l) ++ (44 :: 10 :: y) := by
  simp only [jn, List.cons_append]
  rw [Lib.join_cons, Lib.join_cons]
  simp [Lib.joinTail]
theorem jn_len (l : List Str) : (jn l).length ≤ bulkS l + 2 * l.length + 1 := by
  cases l with
  | nil => simp [jn]
  | cons x l =>
    have := join_lenT [44, 10] (x :: l)
    simp only [List.length_cons, List.length_nil] at this
    simp only [jn, List.length_cons]
    omega
theorem bulkS_appT : ∀ a b : List Str, bulkS (a ++ b) = bulkS a + bulkS b
  | [], b => by simp [bulkS]
  | s :: a, b => by simp only [List.cons_append, bulkS, bulkS_appT a b]; omega
/-- a tree's text is told -/
def PutR (t : Tr) (d : Nat) : Prop := callPure (EV Tryd.prog pol) 12 [.agg (t.enc.map .t), .t (.int .i64 (d : Int))] = some (.t (.str (putT t d)))
theorem snoc_part (k : Int) (ks : List Str) (d : Nat) (pre : List Tr) (x : Tr) : partsT k ks 0 (pre ++ [x]) d = partsT k ks 0 pre d ++ [sp d ++ ((cond (k == 6) (quoteS (ks.getD pre.length []) ++ [58, 32]) []) ++ putT x d)] := by
  rw [parts_app]
  simp [partsT]
theorem l_putR (k n : Int) (s : Str) (ks : List Str) (cs : List Tr) (d : Nat) (o sh : Str) (ho : o.length ≤ 1) (hk : k = 5 ∨ k = 6 ∧ ks.length = cs.length) (hd : d ≤ 8) (hR : rightsT cs (8 - ((d + 1 : Nat) : Int)) = true)
    (hb : s.length + ks.length + bulkS ks + cs.length + Tr.bulks cs ≤ 1048576) (hc : ∀ c ∈ cs, PutR c (d + 1)) : ∀ (rest pre : List Tr), cs = pre ++ rest →
    EV Tryd.prog pol (.loop 12 1018 0 [.t (.int .i64 (d : Int)), .ptr 0 0 0, .t (.str sh), .t (.str (o ++ jn (partsT k ks 0 pre (d + 1)))), .t (.int .i64 (pre.length : Int))] [.vs 5 [(Tr.mk k n s ks cs).enc.map .t]])
    = some (.loop (.exit 1) [.t (.int .i64 (d : Int)), .t (.str sh), .t (.str (o ++ jn (partsT k ks 0 cs (d + 1))))] [])
  | [], pre, hs => by
    have c : decide ((pre.length : Int) < (cs.length : Int)) = false := by simp [hs]
    have hp : cs = pre := by simpa using hs
    refine loop_eq Tryd.func12 rfl rfl ?_
    simp only [↓GO, ↓DRW, GA, ren, renB, footX, refs, cellsV, cst, cstAt, nilC, idxAddr, E.load, E.store, binO, isC, bin, ibin, sbin, una, isShift, okCell, packV, lenV, blt, fnV, asArg, snapV, snapS, snapP, snapC, flatV, flatT, openK, layBack, allT, allZ, mkS, srcOf0, unN, idxV, nilEq, give, tupV, mkEnv, extV, pickV, LVS, OVS, LTS, TYS, PMS, pmT, Int.reduceToNat, Nat.reduceGT, ↓reduceIte, Nat.reduceAdd, Nat.reduceMul, Nat.reduceSub, Nat.reduceEqDiff, Nat.reduceLeDiff, Nat.reduceLT, Nat.reduceBEq, Int.reduceBEq, Int.reduceBNe, Int.reduceEq, Int.reduceLT, Int.reduceLE, Int.reduceGT, Int.reduceNeg, reduceCtorEq, Tr.enc, Tr.encs_len, c]
    rw [hp]
  | x :: rest, pre, hs => by
    have c : decide ((pre.length : Int) < (cs.length : Int)) = true := by simp [hs]; omega
    have hi : pre.length < cs.length := by rw [hs]; simp
    have hget := Tr.encs_get cs pre.length hi
    have hgb : cs[pre.length] = x := by simp [hs]
    rw [hgb] at hget
    have hin : x ∈ cs := by rw [hs]; simp
    have hcall := hc x hin
    have hbx := Tr.bulks_mem hin
    have hnx := Tr.nds_le cs
    have hrx := put_len x (d + 1) (rights_mem hR hin)
    have hxn := x.nd_le
    have hline := c_line (d + 1) (by omega)
    rw [show ((d + 1 : Nat) : Int) = (d : Int) + 1 by omega] at hline
    have hsl := sp_len (d + 1)
    have IH := l_putR k n s ks cs d o sh ho hk hd hR hb hc rest (pre ++ [x]) (by rw [hs]; simp)
    rw [show ((pre ++ [x]).length : Int) = (pre.length : Int) + 1 by simp, snoc_part] at IH
    -- what lies behind so far is not long
    have hpr : rightsT pre (8 - ((d + 1 : Nat) : Int)) = true := by
      have : ∀ l : List Tr, (∀ c ∈ l, rightT c (8 - ((d + 1 : Nat) : Int)) = true) → rightsT l (8 - ((d + 1 : Nat) : Int)) = true := fun l => by
        induction l with
        | nil => intro _; rfl
        | cons y l ih => intro h; simp only [rightsT, Bool.and_eq_true]; exact ⟨h y (by simp), ih fun c hc => h c (by simp [hc])⟩
      exact this pre fun c hcm => rights_mem hR (by rw [hs]; simp [hcm])
    have hpb := partss_len k ks 0 pre (d + 1) hpr (by omega)
    have hpj := jn_len (partsT k ks 0 pre (d + 1))
    rw [parts_len] at hpj
    rw [List.drop_zero] at hpb
    have hpn := Tr.nds_le pre
    have hpp : Tr.bulks pre ≤ Tr.bulks cs ∧ pre.length ≤ cs.length := by
      rw [hs]
      have : ∀ a b : List Tr, Tr.bulks (a ++ b) = Tr.bulks a + Tr.bulks b := fun a b => by
        induction a with
        | nil => simp [Tr.bulks]
        | cons y a ih => simp only [List.cons_append, Tr.bulks, ih]; omega
      rw [this]; simp
    have hks : k = 6 → pre.length < ks.length := fun h => by rcases hk with h' | h' <;> omega
    have hkget : k = 6 → (strs ks)[pre.length]? = some [.str (ks.getD pre.length [])] := fun h => by rw [strs_get ks _ (hks h)]; simp [hks h]
    have hkb : (ks.getD pre.length []).length ≤ bulkS ks := by
      have := bulkS_drop_getD ks pre.length
      have h2 : bulkS (ks.drop pre.length) ≤ bulkS ks := by
        conv => rhs; rw [← List.take_append_drop pre.length ks]
        rw [bulkS_appT]; omega
      omega
    have hq := c_quoteR (ks.getD pre.length []) (by omega)
    have hql := quoteS_len (ks.getD pre.length [])
    have hpl : (putT x (d + 1)).length ≤ 300000000 := by omega
    unfold PutR at hcall
    rw [show ((d + 1 : Nat) : Int) = (d : Int) + 1 by omega] at hcall
    generalize hkx : ks.getD pre.length [] = kx at *
    generalize hpx : putT x (d + 1) = px at *
    have hn0 : decide ((pre.length : Int) > 0) = !(pre.isEmpty) := by cases pre <;> simp <;> omega
    have hpe : partsT k ks 0 pre (d + 1) = [] ∧ pre.isEmpty = true ∨ (∃ y l, partsT k ks 0 pre (d + 1) = y :: l) ∧ pre.isEmpty = false := by
      cases pre with
      | nil => exact .inl ⟨rfl, rfl⟩
      | cons y l => exact .inr ⟨⟨_, _, rfl⟩, rfl⟩
    obtain ⟨k', n', s', ks', cs'⟩ := x
    simp only [Tr.enc, List.map_cons, List.map_nil] at hget hcall IH ⊢
    clear hs hgb hin hc hR hpr hkx hpx hrx hbx
    refine loop_eq Tryd.func12 rfl rfl ?_
    have e56 : ((5 : Int) == 6) = false := rfl
    have e66 : ((6 : Int) == 6) = true := rfl
    rcases hpe with ⟨hpe, hem⟩ | ⟨⟨y, l, hpe⟩, hem⟩
    · rw [hem] at hn0
      simp only [Bool.not_true] at hn0
      rw [hpe] at IH hpj hpb ⊢
      rw [List.nil_append, jn_one] at IH
      rw [show jn [] = [] from rfl, List.append_nil]
      rcases hk with rfl | ⟨rfl, _⟩
      · simp only [e56, cond_false, List.nil_append] at IH
        simp (disch := ((try simp only [List.length_cons, List.length_append, List.length_nil, List.length_map]); omega)) only [↓GO, ↓DRW, GA, ren, renB, footX, refs, cellsV, cst, cstAt, nilC, idxAddr, E.load, E.store, binO, isC, bin, ibin, sbin, una, isShift, okCell, packV, lenV, blt, fnV, asArg, snapV, snapS, snapP, snapC, flatV, flatT, openK, layBack, allT, allZ, mkS, srcOf0, unN, idxV, nilEq, give, tupV, mkEnv, extV, pickV, LVS, OVS, LTS, TYS, PMS, pmT, Int.reduceToNat, Nat.reduceGT, ↓reduceIte, Nat.reduceAdd, Nat.reduceMul, Nat.reduceSub, Nat.reduceEqDiff, Nat.reduceLeDiff, Nat.reduceLT, Nat.reduceBEq, Int.reduceBEq, Int.reduceBNe, Int.reduceEq, Int.reduceLT, Int.reduceLE, Int.reduceGT, Int.reduceNeg, reduceCtorEq, strs_len, Tr.encs_len, c, hget, wrap_in, hn0, hline, e56, hcall, le_T, List.append_assoc, IH]
      · have hkg := hkget rfl
        simp only [e66, cond_true, List.append_assoc, List.cons_append, List.nil_append] at IH
        simp (disch := ((try simp only [List.length_cons, List.length_append, List.length_nil, List.length_map]); omega)) only [↓GO, ↓DRW, GA, ren, renB, footX, refs, cellsV, cst, cstAt, nilC, idxAddr, E.load, E.store, binO, isC, bin, ibin, sbin, una, isShift, okCell, packV, lenV, blt, fnV, asArg, snapV, snapS, snapP, snapC, flatV, flatT, openK, layBack, allT, allZ, mkS, srcOf0, unN, idxV, nilEq, give, tupV, mkEnv, extV, pickV, LVS, OVS, LTS, TYS, PMS, pmT, Int.reduceToNat, Nat.reduceGT, ↓reduceIte, Nat.reduceAdd, Nat.reduceMul, Nat.reduceSub, Nat.reduceEqDiff, Nat.reduceLeDiff, Nat.reduceLT, Nat.reduceBEq, Int.reduceBEq, Int.reduceBNe, Int.reduceEq, Int.reduceLT, Int.reduceLE, Int.reduceGT, Int.reduceNeg, reduceCtorEq, strs_len, Tr.encs_len, c, hget, hkg, hq, wrap_in, hn0, hline, e66, hcall, le_T, List.append_assoc, IH]
    · rw [hem] at hn0
      simp only [Bool.not_false] at hn0
      rw [hpe] at IH hpj hpb ⊢
      rw [jn_snoc] at IH
      generalize jn (y :: l) = J at *
      rcases hk with rfl | ⟨rfl, _⟩
      · simp only [e56, cond_false, List.nil_append, List.append_assoc, List.cons_append] at IH
        simp (disch := ((try simp only [List.length_cons, List.length_append, List.length_nil, List.length_map]); omega)) only [↓GO, ↓DRW, GA, ren, renB, footX, refs, cellsV, cst, cstAt, nilC, idxAddr, E.load, E.store, binO, isC, bin, ibin, sbin, una, isShift, okCell, packV, lenV, blt, fnV, asArg, snapV, snapS, snapP, snapC, flatV, flatT, openK, layBack, allT, allZ, mkS, srcOf0, unN, idxV, nilEq, give, tupV, mkEnv, extV, pickV, LVS, OVS, LTS, TYS, PMS, pmT, Int.reduceToNat, Nat.reduceGT, ↓reduceIte, Nat.reduceAdd, Nat.reduceMul, Nat.reduceSub, Nat.reduceEqDiff, Nat.reduceLeDiff, Nat.reduceLT, Nat.reduceBEq, Int.reduceBEq, Int.reduceBNe, Int.reduceEq, Int.reduceLT, Int.reduceLE, Int.reduceGT, Int.reduceNeg, reduceCtorEq, strs_len, Tr.encs_len, c, hget, wrap_in, hn0, hline, e56, hcall, le_T, List.append_assoc, IH]
      · have hkg := hkget rfl
        simp only [e66, cond_true, List.append_assoc, List.cons_append, List.nil_append] at IH
        simp (disch := ((try simp only [List.length_cons, List.length_append, List.length_nil, List.length_map]); omega)) only [↓GO, ↓DRW, GA, ren, renB, footX, refs, cellsV, cst, cstAt, nilC, idxAddr, E.load, E.store, binO, isC, bin, ibin, sbin, una, isShift, okCell, packV, lenV, blt, fnV, asArg, snapV, snapS, snapP, snapC, flatV, flatT, openK, layBack, allT, allZ, mkS, srcOf0, unN, idxV, nilEq, give, tupV, mkEnv, extV, pickV, LVS, OVS, LTS, TYS, PMS, pmT, Int.reduceToNat, Nat.reduceGT, ↓reduceIte, Nat.reduceAdd, Nat.reduceMul, Nat.reduceSub, Nat.reduceEqDiff, Nat.reduceLeDiff, Nat.reduceLT, Nat.reduceBEq, Int.reduceBEq, Int.reduceBNe, Int.reduceEq, Int.reduceLT, Int.reduceLE, Int.reduceGT, Int.reduceNeg, reduceCtorEq, strs_len, Tr.encs_len, c, hget, hkg, hq, wrap_in, hn0, hline, e66, hcall, le_T, List.append_assoc, IH]
end Go.Proofs.YtdhejeigbjmncaaDoor

/- Joined: X5 T1 T2 M0 A1 A3 G1 M1 M2 M3. Conditions: those of each lemma. -/
import Derived.Test.YtcphjdfmjhijkaaXG
import Derived.Test.YtcphjdfmjhijkaaXH
import Derived.Test.YtcphjdfmjhijkaaXF
set_option linter.unusedVariables false
set_option linter.unusedSimpArgs false
namespace Go.Proofs.Ytcphjdfmjhijkaa
open E
set_option linter.unusedSimpArgs false
set_option linter.unusedVariables false
set_option maxRecDepth 100000
namespace Z5
def pmT (_ _ : Nat) : PM := .pure
noncomputable def pol : Pol := polOf Try.prog pmT liveT outsT (fun _ => true) (fun _ _ => none)
theorem pol_ok : ∀ f fn c, pol.no f = false → Try.prog.funcs[f]? = some fn → fn.body = some c → codeOK (drOK Try.prog pol f) fn.ntmps c = true := polOf_ok
def ownT (_ : Nat) : Bool := false
def ghT (_ _ : Nat) : List Gh := []
def dmT (_ _ : Nat) : Bool := false
theorem DRW : ∀ (rc : Rec) (f m p n : Nat) (fs : List Fr) (k : Fin') (e : Env) (h : Heap) (l : List Oper), goC ⟨Try.prog, pol, rc, f, m⟩ (.region n l.toArray true) p fs k e h = goD ⟨Try.prog, pol, rc, f, m⟩ (l.all (nonW pol f)) (ownT f && dmT f n) l fs k e h := fun _ _ _ _ _ _ _ _ _ _ => goC_draw _ _ _ _ _ _ _ _ rfl
theorem LVS : ∀ f p, pol.live f p = liveT f p := fun _ _ => rfl
theorem OVS : ∀ f p, pol.outs f p = outsT f p := fun _ _ => rfl
theorem PMS : ∀ f d, pol.pm f d = pmT f d := fun _ _ => rfl
theorem OWS : ∀ f, pol.own f = ownT f := fun _ => rfl
theorem DMS : ∀ f n, pol.dm f n = dmT f n := fun _ _ => rfl
theorem GHS : ∀ f n, pol.gh f n = ghT f n := fun _ _ => rfl
theorem ext0 (W0 : World) : ExtOK Try.prog W0 pol := ⟨fun g args v hv => (by cases hv), fun g args h v h' hv => (by cases hv)⟩
end Z5
def cloneE (sz : Nat) (args : List V) (h : Heap) : Option (V × Heap) :=
  match args, h with
  | [.t (.list s es)], [] => if s = sz ∧ es.length ≤ 4194304 then some (.sl 0 0 es.length none, [.ts sz es]) else none
  | _, _ => none
theorem clone_ext (W0 : World) (g sz : Nat) (ht : EV Try.prog Z5.pol (.callO false g [.t (.nlist true sz [])] []) = some (.call (.nil sz) []))
    (hf : ∀ es : List (List T), es.length ≤ 4194304 → EV Try.prog Z5.pol (.callO false g [.t (.nlist false sz es)] []) = some (.call (.sl 0 0 es.length none) [.ts sz es])) : ExtOAt Try.prog W0 g (cloneE sz) := by
  intro args h v h' hv
  unfold cloneE at hv
  split at hv
  · rename_i s es
    split at hv
    · rename_i hl
      obtain ⟨rfl, hl⟩ := hl
      cases hv
      refine ⟨(EV_callO (Z5.ext0 W0) Z5.pol_ok ht).1, fun Ow w F ρ us hB hS hO hu => ?_⟩
      obtain ⟨us⟩ := us
      change RVs w F ρ us _ at hu
      cases hu with
      | cons h1 h2 =>
      cases h2
      cases h1 with
      | t u x hx =>
      have hx0 := hx
      cases hx with
      | list a n c sz es g' hn hc h0 hz hr =>
      cases ha : a.isNone with
      | false =>
        exact (EV_callO (Z5.ext0 W0) Z5.pol_ok (hf es hl)).2 Ow w F ρ _ hB hS hO (.cons (.t _ _ (.nlist _ _ _ _ _ _ ha hx0)) .nil)
      | true =>
        have hes : es = [] := by
          cases es with
          | nil => rfl
          | cons e r =>
            obtain ⟨b, o, e1, _⟩ := h0 (by simp at hn; omega)
            rw [e1] at ha; cases ha
        subst hes
        refine ((EV_callO (Z5.ext0 W0) Z5.pol_ok ht).2 Ow w F ρ _ hB hS hO (.cons (.t _ _ (.nlist _ _ _ _ _ _ ha hx0)) .nil)).mono fun e w' hp => ?_
        obtain ⟨u, F', ρ', e1, e2, e3, e4, e5⟩ := hp
        cases e2 with
        | nil _ =>
        refine ⟨_, F', fun r => if r = 0 then some none else ρ' r, e1, .slP 0 none _ (by simp) (.inl rfl), ⟨?_, ?_, e3.fsz, ?_, ⟨fun _ _ _ _ => False, fun r i j x ho => ?_, fun _ _ _ _ h => h.elim, fun _ _ _ _ _ _ _ h => h.elim, fun _ _ _ _ _ _ _ h => h.elim⟩⟩, e4, fun r l hr => by simp at hr⟩
        · intro r b hr
          match r with
          | 0 => simp at hr; subst hr; exact .inr ⟨by simp, rfl⟩
          | r + 1 => simp at hr
        · intro r r' b b' L L' hr hr' _ _ hL
          match r with
          | 0 => simp at hL
          | r + 1 => simp at hr
        · intro r hr
          have h1 := e3.out r (Nat.zero_le _)
          match r with
          | 0 => simp at hr
          | r + 1 => simpa using h1
        · obtain ⟨s, e, c, h1, _⟩ := ho
          match r with
          | 0 => simp at h1
          | r + 1 => simp at h1
    · cases hv
  · cases hv
namespace Z5
theorem clS_t : EV Try.prog pol (.callO false 47 [.t (.nlist true 1 [])] []) = some (.call (.nil 1) []) := by
  refine callO_eq Try.func47 rfl (by kernel_rfl) ?_
  unfold Try.f47
  simp (disch := ((try simp only [List.length_cons, List.length_append, List.length_nil, List.length_map]); omega)) only [↓GO, ↓DRW, GA, ren, renB, footX, refs, cellsV, cst, cstAt, nilC, idxAddr, E.load, E.store, binO, isC, bin, ibin, sbin, una, isShift, okCell, packV, lenV, blt, fnV, asArg, snapV, snapS, snapP, snapC, snapX, flatV, flatT, openK, layBack, allT, allZ, mkS, srcOf0, unN, idxV, nilEq, give, tupV, mkEnv, extV, pickV, LVS, OVS, LTS, TYS, PMS, pmT, OWS, ownT, GHS, ghT, DMS, dmT, Int.reduceToNat, Nat.reduceGT, ↓reduceIte, Nat.reduceAdd, Nat.reduceMul, Nat.reduceSub, Nat.reduceEqDiff, Nat.reduceLeDiff, Nat.reduceLT, Nat.reduceBEq, Int.reduceBEq, Int.reduceBNe, Int.reduceEq, Int.reduceLT, Int.reduceLE, Int.reduceGT, Int.reduceNeg, reduceCtorEq]
theorem clS_f (es : List (List T)) (hl : es.length ≤ 4194304) : EV Try.prog pol (.callO false 47 [.t (.nlist false 1 es)] []) = some (.call (.sl 0 0 es.length none) [.ts 1 es]) := by
  refine callO_eq Try.func47 rfl (by kernel_rfl) ?_
  unfold Try.f47
  simp (disch := ((try simp only [List.length_cons, List.length_append, List.length_nil, List.length_map]); omega)) only [↓GO, ↓DRW, GA, ren, renB, footX, refs, cellsV, cst, cstAt, nilC, idxAddr, E.load, E.store, binO, isC, bin, ibin, sbin, una, isShift, okCell, packV, lenV, blt, fnV, asArg, snapV, snapS, snapP, snapC, snapX, flatV, flatT, openK, layBack, allT, allZ, mkS, srcOf0, unN, idxV, nilEq, give, tupV, mkEnv, extV, pickV, LVS, OVS, LTS, TYS, PMS, pmT, OWS, ownT, GHS, ghT, DMS, dmT, Int.reduceToNat, Nat.reduceGT, ↓reduceIte, Nat.reduceAdd, Nat.reduceMul, Nat.reduceSub, Nat.reduceEqDiff, Nat.reduceLeDiff, Nat.reduceLT, Nat.reduceBEq, Int.reduceBEq, Int.reduceBNe, Int.reduceEq, Int.reduceLT, Int.reduceLE, Int.reduceGT, Int.reduceNeg, reduceCtorEq, le_T]
theorem clM_t : EV Try.prog pol (.callO false 51 [.t (.nlist true 2 [])] []) = some (.call (.nil 2) []) := by
  refine callO_eq Try.func51 rfl (by kernel_rfl) ?_
  unfold Try.f51
  simp (disch := ((try simp only [List.length_cons, List.length_append, List.length_nil, List.length_map]); omega)) only [↓GO, ↓DRW, GA, ren, renB, footX, refs, cellsV, cst, cstAt, nilC, idxAddr, E.load, E.store, binO, isC, bin, ibin, sbin, una, isShift, okCell, packV, lenV, blt, fnV, asArg, snapV, snapS, snapP, snapC, snapX, flatV, flatT, openK, layBack, allT, allZ, mkS, srcOf0, unN, idxV, nilEq, give, tupV, mkEnv, extV, pickV, LVS, OVS, LTS, TYS, PMS, pmT, OWS, ownT, GHS, ghT, DMS, dmT, Int.reduceToNat, Nat.reduceGT, ↓reduceIte, Nat.reduceAdd, Nat.reduceMul, Nat.reduceSub, Nat.reduceEqDiff, Nat.reduceLeDiff, Nat.reduceLT, Nat.reduceBEq, Int.reduceBEq, Int.reduceBNe, Int.reduceEq, Int.reduceLT, Int.reduceLE, Int.reduceGT, Int.reduceNeg, reduceCtorEq]
theorem clM_f (es : List (List T)) (hl : es.length ≤ 4194304) : EV Try.prog pol (.callO false 51 [.t (.nlist false 2 es)] []) = some (.call (.sl 0 0 es.length none) [.ts 2 es]) := by
  refine callO_eq Try.func51 rfl (by kernel_rfl) ?_
  unfold Try.f51
  simp (disch := ((try simp only [List.length_cons, List.length_append, List.length_nil, List.length_map]); omega)) only [↓GO, ↓DRW, GA, ren, renB, footX, refs, cellsV, cst, cstAt, nilC, idxAddr, E.load, E.store, binO, isC, bin, ibin, sbin, una, isShift, okCell, packV, lenV, blt, fnV, asArg, snapV, snapS, snapP, snapC, snapX, flatV, flatT, openK, layBack, allT, allZ, mkS, srcOf0, unN, idxV, nilEq, give, tupV, mkEnv, extV, pickV, LVS, OVS, LTS, TYS, PMS, pmT, OWS, ownT, GHS, ghT, DMS, dmT, Int.reduceToNat, Nat.reduceGT, ↓reduceIte, Nat.reduceAdd, Nat.reduceMul, Nat.reduceSub, Nat.reduceEqDiff, Nat.reduceLeDiff, Nat.reduceLT, Nat.reduceBEq, Int.reduceBEq, Int.reduceBNe, Int.reduceEq, Int.reduceLT, Int.reduceLE, Int.reduceGT, Int.reduceNeg, reduceCtorEq, le_T]
end Z5
theorem cloneS_at (W0 : World) : ExtOAt Try.prog W0 47 (cloneE 1) := clone_ext W0 _ 1 Z5.clS_t Z5.clS_f
theorem cloneM_at (W0 : World) : ExtOAt Try.prog W0 51 (cloneE 2) := clone_ext W0 _ 2 Z5.clM_t Z5.clM_f
end Go.Proofs.Ytcphjdfmjhijkaa
/- Plain words about texts: digits, quotes, joins. Conditions: those of each lemma. -/
namespace Go.Proofs.Ytcphjdfmjhijkaa
set_option linter.unusedVariables false
set_option linter.unusedSimpArgs false

abbrev Str := List UInt8
abbrev B2 (a lo hi : Int) : Bool := decide (lo ≤ a) && decide (a ≤ hi)
/-- a byte's number -/
abbrev nb (b : UInt8) : Int := (b.toNat : Int)
theorem u8_lt (b : UInt8) : (b.toNat : Int) < 256 ∧ (0 : Int) ≤ (b.toNat : Int) := by have := b.toNat_lt; omega
/-- a digit of sixteen -/
def hexD (n : Nat) : UInt8 := if n < 10 then UInt8.ofNat (48 + n) else UInt8.ofNat (87 + n)
def hexB (b : UInt8) : Str := [hexD (b.toNat / 16), hexD (b.toNat % 16)]
def hexS (s : Str) : Str := s.flatMap hexB
/-- a byte within quotes -/
def quoteB (b : UInt8) : Str :=
  if b.toNat = 34 ∨ b.toNat = 92 then [92, b]
  else if b.toNat = 10 then [92, 110]
  else if b.toNat < 32 ∨ 127 ≤ b.toNat then [92, 120] ++ hexB b
  else [b]
def quoteS (s : Str) : Str := 34 :: (s.flatMap quoteB ++ [34])
theorem hexB_len (b : UInt8) : (hexB b).length = 2 := rfl
theorem hexS_len (s : Str) : (hexS s).length = 2 * s.length := by
  induction s with
  | nil => rfl
  | cons b s ih => simp only [hexS, List.flatMap_cons, List.length_append, hexB_len, List.length_cons] at ih ⊢; omega
theorem quoteB_len (b : UInt8) : (quoteB b).length ≤ 4 ∧ 1 ≤ (quoteB b).length := by
  unfold quoteB
  split
  · simp
  · split
    · simp
    · split
      · simp [hexB]
      · simp
theorem flat_le (f : UInt8 → Str) (k : Nat) (hf : ∀ b, (f b).length ≤ k) : ∀ s : Str, (s.flatMap f).length ≤ k * s.length
  | [] => by simp
  | b :: s => by
    have h1 := hf b
    have h2 := flat_le f k hf s
    simp only [List.flatMap_cons, List.length_append, List.length_cons, Nat.mul_add, Nat.mul_one]
    omega
theorem quoteS_len (s : Str) : (quoteS s).length ≤ 4 * s.length + 2 := by
  have := flat_le quoteB 4 (fun b => (quoteB_len b).1) s
  simp only [quoteS, List.length_cons, List.length_append, List.length_nil]
  omega
/-- texts between which another stands -/
def joinS (sep : Str) : List Str → Str
  | [] => []
  | [x] => x
  | x :: y :: r => x ++ sep ++ joinS sep (y :: r)
/-- the parts between a byte -/
def cutS (b : UInt8) : Str → List Str
  | [] => [[]]
  | x :: s => if x = b then [] :: cutS b s else match cutS b s with
    | p :: r => (x :: p) :: r
    | [] => [[x]]
end Go.Proofs.Ytcphjdfmjhijkaa
/- Lists of texts, trees: as the evaluator sees them; their sizes. Conditions: those of each lemma. -/
namespace Go.Proofs.Ytcphjdfmjhijkaa
open E
set_option linter.unusedSimpArgs false
set_option linter.unusedVariables false
set_option maxRecDepth 100000

/-- a list of texts -/
def strs (ks : List (List UInt8)) : List (List T) := ks.map fun s => [.str s]
def bulkS : List (List UInt8) → Nat
  | [] => 0
  | s :: ks => s.length + bulkS ks
theorem strs_len (ks : List (List UInt8)) : (strs ks).length = ks.length := by simp [strs]
theorem strs_get (ks : List (List UInt8)) (i : Nat) (h : i < ks.length) : (strs ks)[i]? = some [.str ks[i]] := by simp [strs, h]
theorem bulkS_drop (ks : List (List UInt8)) (i : Nat) (h : i < ks.length) : bulkS (ks.drop i) = ks[i].length + bulkS (ks.drop (i + 1)) := by
  rw [List.drop_eq_getElem_cons h]; rfl
/-- a row filled up to a place -/
def fillE (xs : List (List T)) (z : List T) (i : Nat) : List (List T) := xs.take i ++ List.replicate (xs.length - i) z
theorem fillE_zero (xs : List (List T)) (z : List T) : fillE xs z 0 = List.replicate xs.length z := by simp [fillE]
theorem fillE_all (xs : List (List T)) (z : List T) : fillE xs z xs.length = xs := by simp [fillE]
theorem fillE_len (xs : List (List T)) (z : List T) (i : Nat) (h : i ≤ xs.length) : (fillE xs z i).length = xs.length := by simp [fillE]; omega
theorem fillE_get (xs : List (List T)) (z : List T) (i : Nat) (h : i < xs.length) : (fillE xs z i)[i]? = some z := by
  unfold fillE
  rw [List.getElem?_append_right (by simp; omega), List.getElem?_replicate, if_pos (by simp; omega)]
theorem fillE_set (xs : List (List T)) (z : List T) (i : Nat) (h : i < xs.length) : (fillE xs z i).set i xs[i] = fillE xs z (i + 1) := by
  unfold fillE
  apply List.ext_getElem?
  intro j
  rw [List.getElem?_set]
  by_cases hj : i = j
  · subst hj
    rw [if_pos rfl, if_pos (by simp; omega), List.getElem?_append_left (by simp; omega)]
    simp [h]
  · rw [if_neg hj]
    rcases Nat.lt_or_ge j i with hlt | hge
    · rw [List.getElem?_append_left (by simp; omega), List.getElem?_append_left (by simp; omega)]
      rw [List.getElem?_take, List.getElem?_take, if_pos hlt, if_pos (by omega)]
    · rw [List.getElem?_append_right (by simp; omega), List.getElem?_append_right (by simp; omega), List.getElem?_replicate, List.getElem?_replicate]
      simp only [List.length_take]
      by_cases hk : j < xs.length
      · rw [if_pos (by omega), if_pos (by omega)]
      · rw [if_neg (by omega), if_neg (by omega)]
inductive Tr where
  | mk (k n : Int) (s : List UInt8) (ks : List (List UInt8)) (cs : List Tr)
mutual
def Tr.enc : Tr → List T
  | .mk k n s ks cs => [.int .i64 k, .int .i64 n, .str s, .list 1 (strs ks), .list 5 (Tr.encs cs)]
def Tr.encs : List Tr → List (List T)
  | [] => []
  | c :: cs => Tr.enc c :: Tr.encs cs
end
mutual
def Tr.bulk : Tr → Nat
  | .mk _ _ s ks cs => s.length + ks.length + bulkS ks + cs.length + Tr.bulks cs
def Tr.bulks : List Tr → Nat
  | [] => 0
  | c :: cs => Tr.bulk c + Tr.bulks cs
end
mutual
def Tr.nd : Tr → Nat
  | .mk _ _ _ _ cs => Tr.nds cs + 1
def Tr.nds : List Tr → Nat
  | [] => 0
  | c :: cs => Tr.nd c + Tr.nds cs
end
mutual
def Tr.ok : Tr → Prop
  | .mk _ _ s ks cs => s.length ≤ 9223372036854775807 ∧ ks.length ≤ 9223372036854775807 ∧ (∀ x ∈ ks, x.length ≤ 9223372036854775807) ∧ cs.length ≤ 9223372036854775807 ∧ Tr.oks cs
def Tr.oks : List Tr → Prop
  | [] => True
  | c :: cs => Tr.ok c ∧ Tr.oks cs
end
theorem Tr.encs_eq : ∀ cs : List Tr, Tr.encs cs = cs.map Tr.enc
  | [] => rfl
  | c :: cs => by simp [Tr.encs, Tr.encs_eq cs]
theorem Tr.encs_len (cs : List Tr) : (Tr.encs cs).length = cs.length := by simp [Tr.encs_eq]
theorem Tr.encs_get (cs : List Tr) (i : Nat) (h : i < cs.length) : (Tr.encs cs)[i]? = some cs[i].enc := by simp [Tr.encs_eq, h]
theorem Tr.bulks_drop (cs : List Tr) (i : Nat) (h : i < cs.length) : Tr.bulks (cs.drop i) = cs[i].bulk + Tr.bulks (cs.drop (i + 1)) := by
  rw [List.drop_eq_getElem_cons h]; rfl
theorem Tr.nds_mem : ∀ {cs : List Tr} {c : Tr}, c ∈ cs → c.nd ≤ Tr.nds cs
  | c' :: cs, c, h => by
    simp only [Tr.nds]
    rcases List.mem_cons.1 h with rfl | h
    · omega
    · have := Tr.nds_mem h; omega
theorem Tr.oks_mem : ∀ {cs : List Tr} {c : Tr}, Tr.oks cs → c ∈ cs → c.ok
  | c' :: cs, c, h, hm => by
    simp only [Tr.oks] at h
    rcases List.mem_cons.1 hm with rfl | hm
    · exact h.1
    · exact Tr.oks_mem h.2 hm

theorem Tr.bulks_mem : ∀ {cs : List Tr} {c : Tr}, c ∈ cs → c.bulk ≤ Tr.bulks cs
  | c' :: cs, c, h => by
    simp only [Tr.bulks]
    rcases List.mem_cons.1 h with rfl | h
    · omega
    · have := Tr.bulks_mem h; omega
end Go.Proofs.Ytcphjdfmjhijkaa
/- The seat's facts, where laws mark what they are handed: the policy. Conditions: none. -/
namespace Go.Proofs.Ytcphjdfmjhijkaa
open E
set_option linter.unusedSimpArgs false
set_option linter.unusedVariables false
set_option maxRecDepth 100000
/-- the calls that do not hand on frozen values, or values as they are -/
def pmT (f d : Nat) : PM :=
  if f = 22 ∧ (d = 15 ∨ d = 19) then .opn false else
  if f = 11 ∧ d = 20 then .opn false else
  if f = 34 ∧ (d = 8 ∨ d = 20) then .opn false else
  if f = 23 ∧ d = 28 then .opn false else
  if f = 18 ∧ (d = 8 ∨ d = 12) then .opn false else
  if f = 17 ∧ (d = 40 ∨ d = 47) then .opn false else
  if f = 4 ∧ (d = 32 ∨ d = 55 ∨ d = 71 ∨ d = 84) then .opn false else
  if f = 4 ∧ d = 36 then .brw else
  if f = 12 ∧ d = 18 then .opn false else
  if f = 28 ∧ (d = 6 ∨ d = 10) then .opn false else
  if f = 42 ∧ d = 20 then .opn false else
  if f = 50 ∧ (d = 15 ∨ d = 22) then .opn false else
  if f = 31 ∧ (d = 8 ∨ d = 12) then .opn false else
  if f = 45 ∧ (d = 42 ∨ d = 58) then .opn false else
  if f = 43 ∧ d = 8 then .opn false else
  if f = 43 ∧ (d = 19 ∨ d = 22) then .brw else
  if f = 27 ∧ d = 8 then .opn false else
  if f = 29 ∧ d = 8 then .opn false else
  if f = 6 ∧ (d = 23 ∨ d = 38 ∨ d = 49 ∨ d = 61) then .opn false else
  if f = 6 ∧ d = 26 then .brw else
  if f = 24 ∧ d = 10 then .opn false else
  if f = 25 ∧ d = 10 then .opn false else
  if f = 25 ∧ (d = 32 ∨ d = 43) then .brw else
  if f = 5 ∧ (d = 36 ∨ d = 38 ∨ d = 59 ∨ d = 62 ∨ d = 73) then .opn false else
  if f = 5 ∧ d = 42 then .brw else
  if f = 3 ∧ (d = 30 ∨ d = 32 ∨ d = 52 ∨ d = 55 ∨ d = 66 ∨ d = 79) then .opn false else
  if f = 3 ∧ d = 35 then .brw else
  .pure
def ownT (f : Nat) : Bool :=
  if f = 11 then true else
  if f = 34 then true else
  if f = 4 then true else
  if f = 12 then true else
  if f = 42 then true else
  if f = 43 then true else
  if f = 6 then true else
  if f = 25 then true else
  if f = 5 then true else
  if f = 3 then true else
  false
def ghT (f n : Nat) : List Gh :=
  if f = 11 ∧ n = 4 then [⟨true, 3, some 4, [(3, false), (4, false)]⟩] else
  if f = 34 ∧ n = 7 then [⟨true, 3, none, [(3, false), (4, false)]⟩] else
  if f = 42 ∧ n = 4 then [⟨true, 3, some 4, [(3, false), (5, false)]⟩] else
  if f = 43 ∧ n = 7 then [⟨true, 29, none, [(3, false), (5, false)]⟩] else
  if f = 45 ∧ n = 10 then [⟨false, 0, some 5, [(3, true)]⟩] else
  if f = 45 ∧ n = 13 then [⟨false, 0, some 5, [(5, true)]⟩] else
  if f = 45 ∧ n = 3 then [⟨true, 0, some 5, [(3, true), (5, true)]⟩] else
  if f = 25 ∧ n = 7 then [⟨true, 29, some 8, [(3, false), (4, false)]⟩] else
  if f = 25 ∧ n = 9 then [⟨true, 45, none, [(3, false), (4, false)]⟩] else
  if f = 17 ∧ n = 10 then [⟨false, 0, some 5, [(3, true)]⟩] else
  if f = 17 ∧ n = 11 then [⟨false, 0, some 5, [(4, false)]⟩] else
  if f = 17 ∧ n = 3 then [⟨true, 0, some 5, [(3, true), (4, false)]⟩] else
  []
def dmT (f n : Nat) : Bool :=
  if f = 12 ∧ n = 2 then true else
  if f = 25 ∧ (n = 6 ∨ n = 8) then true else
  if f = 43 ∧ n = 5 then true else
  false
def drT (_ : Nat) : Bool := true
def extOT (f : Nat) (args : List V) (h : Heap) : Option (V × Heap) :=
  if f = 47 then cloneE 1 args h else
  if f = 51 then cloneE 2 args h else
  none
noncomputable def pol : Pol := polOf Try.prog pmT liveT outsT drT (fun _ _ => none) extOT ownT ghT dmT
theorem pol_ok : ∀ f fn c, pol.no f = false → Try.prog.funcs[f]? = some fn → fn.body = some c → codeOK (drOK Try.prog pol f) fn.ntmps c = true := polOf_ok
theorem DRW : ∀ (rc : Rec) (f m p n : Nat) (fs : List Fr) (k : Fin') (e : Env) (h : Heap) (l : List Oper), goC ⟨Try.prog, pol, rc, f, m⟩ (.region n l.toArray true) p fs k e h = goD ⟨Try.prog, pol, rc, f, m⟩ (l.all (nonW pol f)) (ownT f && dmT f n) l fs k e h := fun _ _ _ _ _ _ _ _ _ _ => goC_draw _ _ _ _ _ _ _ _ rfl
theorem LVS : ∀ f p, pol.live f p = liveT f p := fun _ _ => rfl
theorem OVS : ∀ f p, pol.outs f p = outsT f p := fun _ _ => rfl
theorem PMS : ∀ f d, pol.pm f d = pmT f d := fun _ _ => rfl
theorem OWS : ∀ f, pol.own f = ownT f := fun _ => rfl
theorem DMS : ∀ f n, pol.dm f n = dmT f n := fun _ _ => rfl
theorem GHS : ∀ f n, pol.gh f n = ghT f n := fun _ _ => rfl
theorem pol_extO (f : Nat) (args : List V) (h : Heap) : pol.extO f args h = extOT f args h := rfl
theorem ext_ok (W0 : World) : ExtOK Try.prog W0 pol := by
  refine ⟨fun g args v hv => (by cases hv), fun g args h v h' hv => ?_⟩
  have hv' : extOT g args h = some (v, h') := hv
  clear hv
  unfold extOT at hv'
  by_cases hg : g = 47
  · subst hg
    rw [if_pos rfl] at hv'
    exact cloneS_at W0 args h v h' hv'
  rw [if_neg hg] at hv'
  clear hg
  by_cases hg : g = 51
  · subst hg
    rw [if_pos rfl] at hv'
    exact cloneM_at W0 args h v h' hv'
  rw [if_neg hg] at hv'
  clear hg
  cases hv'
theorem c_cloneS (es : List (List T)) (h : es.length ≤ 4194304) : EV Try.prog pol (.callO false 47 [.t (.list 1 es)] []) = some (.call (.sl 0 0 es.length none) [.ts 1 es]) :=
  EV_extO (x := (.sl 0 0 es.length none, [.ts 1 es])) (by rw [pol_extO]; unfold extOT; simp (config := { decide := true }) only [if_true, if_false, reduceIte, cloneE]; rw [if_pos ⟨trivial, h⟩])
theorem c_cloneM (es : List (List T)) (h : es.length ≤ 4194304) : EV Try.prog pol (.callO false 51 [.t (.list 2 es)] []) = some (.call (.sl 0 0 es.length none) [.ts 2 es]) :=
  EV_extO (x := (.sl 0 0 es.length none, [.ts 2 es])) (by rw [pol_extO]; unfold extOT; simp (config := { decide := true }) only [if_true, if_false, reduceIte, cloneE]; rw [if_pos ⟨trivial, h⟩])
theorem asArg_sl (r off len : Nat) (cap : Option Nat) : asArg (.sl r off len cap) = none := rfl
theorem asArg_ptr (r i j : Nat) : asArg (.ptr r i j) = none := rfl
end Go.Proofs.Ytcphjdfmjhijkaa
/- The laws' own functions over lists of texts. Conditions: those of each lemma. -/
namespace Go.Proofs.Ytcphjdfmjhijkaa
open E
set_option linter.unusedSimpArgs false
set_option linter.unusedVariables false
set_option maxRecDepth 100000

theorem l_szStringS (ks : List (List UInt8)) (hl : ks.length ≤ 9223372036854775807) (hs : ∀ s ∈ ks, s.length ≤ 9223372036854775807) : ∀ (d i : Nat) (n : Int), ks.length - i = d → i ≤ ks.length → 0 ≤ n → n ≤ 1048576 →
    (0 ≤ n - (bulkS (ks.drop i) : Int) → EV Try.prog pol (.loop 7 122 0 [.t (.list 1 (strs ks)), .t (.int .i64 n), .t (.int .i64 (i : Int))] []) = some (.loop (.exit 0) [.t (.int .i64 (n - (bulkS (ks.drop i) : Int))), .bad] [])) ∧
    (n - (bulkS (ks.drop i) : Int) < 0 → ∃ v, EV Try.prog pol (.loop 7 122 0 [.t (.list 1 (strs ks)), .t (.int .i64 n), .t (.int .i64 (i : Int))] []) = some (.loop .ret [v, .t (.int .i64 (-1))] []))
  | 0, i, n, hd, hi, h0, h1 => by
    have hi' : i = ks.length := by omega
    subst hi'
    have hb : bulkS (ks.drop ks.length) = 0 := by simp [bulkS]
    rw [hb]
    refine ⟨fun _ => ?_, fun h => by omega⟩
    refine loop_eq Try.func7 rfl rfl ?_
    have c : decide (((ks.length : Nat) : Int) < ((ks.length : Nat) : Int)) = false := by simp
    simp only [↓GO, ↓DRW, GA, ren, renB, footX, refs, cellsV, cst, cstAt, nilC, idxAddr, E.load, E.store, binO, isC, bin, ibin, sbin, una, isShift, okCell, packV, lenV, blt, fnV, asArg, snapV, snapS, snapP, snapC, snapX, flatV, flatT, openK, layBack, allT, allZ, mkS, srcOf0, unN, idxV, nilEq, give, tupV, mkEnv, extV, pickV, LVS, OVS, LTS, TYS, PMS, pmT, OWS, ownT, GHS, ghT, DMS, dmT, Int.reduceToNat, Nat.reduceGT, ↓reduceIte, Nat.reduceAdd, Nat.reduceMul, Nat.reduceSub, Nat.reduceEqDiff, Nat.reduceLeDiff, Nat.reduceLT, Nat.reduceBEq, Int.reduceBEq, Int.reduceBNe, Int.reduceEq, Int.reduceLT, Int.reduceLE, Int.reduceGT, Int.reduceNeg, reduceCtorEq, strs_len, c]
    simp
  | d + 1, i, n, hd, hi, h0, h1 => by
    have hlt : i < ks.length := by omega
    rw [bulkS_drop ks i hlt]
    have c : decide ((i : Int) < ((ks.length : Nat) : Int)) = true := by simp; omega
    have hsl : ks[i].length ≤ 9223372036854775807 := hs _ (List.getElem_mem hlt)
    have IH := l_szStringS ks hl hs d (i + 1) (n - (ks[i].length : Int)) (by omega) (by omega)
    have e1 : (i : Int) + 1 = ((i + 1 : Nat) : Int) := by omega
    by_cases hneg : n - (ks[i].length : Int) < 0
    · refine ⟨fun h => by omega, fun _ => ⟨.t (.int .i64 (n - (ks[i].length : Int))), ?_⟩⟩
      refine loop_eq Try.func7 rfl rfl ?_
      have c2 : decide (n - (ks[i].length : Int) < 0) = true := by simpa using hneg
      simp (disch := omega) only [↓GO, ↓DRW, GA, ren, renB, footX, refs, cellsV, cst, cstAt, nilC, idxAddr, E.load, E.store, binO, isC, bin, ibin, sbin, una, isShift, okCell, packV, lenV, blt, fnV, asArg, snapV, snapS, snapP, snapC, snapX, flatV, flatT, openK, layBack, allT, allZ, mkS, srcOf0, unN, idxV, nilEq, give, tupV, mkEnv, extV, pickV, LVS, OVS, LTS, TYS, PMS, pmT, OWS, ownT, GHS, ghT, DMS, dmT, Int.reduceToNat, Nat.reduceGT, ↓reduceIte, Nat.reduceAdd, Nat.reduceMul, Nat.reduceSub, Nat.reduceEqDiff, Nat.reduceLeDiff, Nat.reduceLT, Nat.reduceBEq, Int.reduceBEq, Int.reduceBNe, Int.reduceEq, Int.reduceLT, Int.reduceLE, Int.reduceGT, Int.reduceNeg, reduceCtorEq, strs_len, c, strs_get ks i hlt, wrap_in, c2]
    · have c2 : decide (n - (ks[i].length : Int) < 0) = false := by simpa using hneg
      obtain ⟨I1, I2⟩ := IH (by omega) (by omega)
      refine ⟨fun h => ?_, fun h => ?_⟩
      · refine loop_eq Try.func7 rfl rfl ?_
        simp (disch := omega) only [↓GO, ↓DRW, GA, ren, renB, footX, refs, cellsV, cst, cstAt, nilC, idxAddr, E.load, E.store, binO, isC, bin, ibin, sbin, una, isShift, okCell, packV, lenV, blt, fnV, asArg, snapV, snapS, snapP, snapC, snapX, flatV, flatT, openK, layBack, allT, allZ, mkS, srcOf0, unN, idxV, nilEq, give, tupV, mkEnv, extV, pickV, LVS, OVS, LTS, TYS, PMS, pmT, OWS, ownT, GHS, ghT, DMS, dmT, Int.reduceToNat, Nat.reduceGT, ↓reduceIte, Nat.reduceAdd, Nat.reduceMul, Nat.reduceSub, Nat.reduceEqDiff, Nat.reduceLeDiff, Nat.reduceLT, Nat.reduceBEq, Int.reduceBEq, Int.reduceBNe, Int.reduceEq, Int.reduceLT, Int.reduceLE, Int.reduceGT, Int.reduceNeg, reduceCtorEq, strs_len, c, strs_get ks i hlt, wrap_in, c2, e1]
        rw [I1 (by omega), show n - (ks[i].length : Int) - (bulkS (ks.drop (i + 1)) : Int) = n - ((ks[i].length + bulkS (ks.drop (i + 1)) : Nat) : Int) by omega]
      · obtain ⟨v, hv⟩ := I2 (by omega)
        refine ⟨v, ?_⟩
        refine loop_eq Try.func7 rfl rfl ?_
        simp (disch := omega) only [↓GO, ↓DRW, GA, ren, renB, footX, refs, cellsV, cst, cstAt, nilC, idxAddr, E.load, E.store, binO, isC, bin, ibin, sbin, una, isShift, okCell, packV, lenV, blt, fnV, asArg, snapV, snapS, snapP, snapC, snapX, flatV, flatT, openK, layBack, allT, allZ, mkS, srcOf0, unN, idxV, nilEq, give, tupV, mkEnv, extV, pickV, LVS, OVS, LTS, TYS, PMS, pmT, OWS, ownT, GHS, ghT, DMS, dmT, Int.reduceToNat, Nat.reduceGT, ↓reduceIte, Nat.reduceAdd, Nat.reduceMul, Nat.reduceSub, Nat.reduceEqDiff, Nat.reduceLeDiff, Nat.reduceLT, Nat.reduceBEq, Int.reduceBEq, Int.reduceBNe, Int.reduceEq, Int.reduceLT, Int.reduceLE, Int.reduceGT, Int.reduceNeg, reduceCtorEq, strs_len, c, strs_get ks i hlt, wrap_in, c2, e1]
        exact hv
theorem c_szStringS (ks : List (List UInt8)) (hl : ks.length ≤ 9223372036854775807) (hs : ∀ s ∈ ks, s.length ≤ 9223372036854775807) (n : Int) (h0 : 0 ≤ n) (h1 : n ≤ 1048576) :
    callPure (EV Try.prog pol) 7 [.t (.list 1 (strs ks)), .t (.int .i64 n)] = some (.t (.int .i64 (left n (ks.length + bulkS ks)))) := by
  apply eq_call
  refine call_eq rfl Try.func7 rfl (by kernel_rfl) ?_
  unfold Try.f7
  by_cases hneg : n - (ks.length : Int) < 0
  · have c2 : decide (n - (ks.length : Int) < 0) = true := by simpa using hneg
    simp (disch := omega) only [↓GO, ↓DRW, GA, ren, renB, footX, refs, cellsV, cst, cstAt, nilC, idxAddr, E.load, E.store, binO, isC, bin, ibin, sbin, una, isShift, okCell, packV, lenV, blt, fnV, asArg, snapV, snapS, snapP, snapC, snapX, flatV, flatT, openK, layBack, allT, allZ, mkS, srcOf0, unN, idxV, nilEq, give, tupV, mkEnv, extV, pickV, LVS, OVS, LTS, TYS, PMS, pmT, OWS, ownT, GHS, ghT, DMS, dmT, Int.reduceToNat, Nat.reduceGT, ↓reduceIte, Nat.reduceAdd, Nat.reduceMul, Nat.reduceSub, Nat.reduceEqDiff, Nat.reduceLeDiff, Nat.reduceLT, Nat.reduceBEq, Int.reduceBEq, Int.reduceBNe, Int.reduceEq, Int.reduceLT, Int.reduceLE, Int.reduceGT, Int.reduceNeg, reduceCtorEq, strs_len, wrap_in, c2]
    rw [left, if_pos (by omega)]
  · have c2 : decide (n - (ks.length : Int) < 0) = false := by simpa using hneg
    obtain ⟨I1, I2⟩ := l_szStringS ks hl hs ks.length 0 (n - (ks.length : Int)) (by omega) (by omega) (by omega) (by omega)
    simp only [List.drop_zero, Int.natCast_zero] at I1 I2
    by_cases hn2 : n - (ks.length : Int) - (bulkS ks : Int) < 0
    · obtain ⟨v, hv⟩ := I2 hn2
      simp (disch := omega) only [↓GO, ↓DRW, GA, ren, renB, footX, refs, cellsV, cst, cstAt, nilC, idxAddr, E.load, E.store, binO, isC, bin, ibin, sbin, una, isShift, okCell, packV, lenV, blt, fnV, asArg, snapV, snapS, snapP, snapC, snapX, flatV, flatT, openK, layBack, allT, allZ, mkS, srcOf0, unN, idxV, nilEq, give, tupV, mkEnv, extV, pickV, LVS, OVS, LTS, TYS, PMS, pmT, OWS, ownT, GHS, ghT, DMS, dmT, Int.reduceToNat, Nat.reduceGT, ↓reduceIte, Nat.reduceAdd, Nat.reduceMul, Nat.reduceSub, Nat.reduceEqDiff, Nat.reduceLeDiff, Nat.reduceLT, Nat.reduceBEq, Int.reduceBEq, Int.reduceBNe, Int.reduceEq, Int.reduceLT, Int.reduceLE, Int.reduceGT, Int.reduceNeg, reduceCtorEq, strs_len, wrap_in, c2, hv]
      rw [left, if_pos (by omega)]
    · simp (disch := omega) only [↓GO, ↓DRW, GA, ren, renB, footX, refs, cellsV, cst, cstAt, nilC, idxAddr, E.load, E.store, binO, isC, bin, ibin, sbin, una, isShift, okCell, packV, lenV, blt, fnV, asArg, snapV, snapS, snapP, snapC, snapX, flatV, flatT, openK, layBack, allT, allZ, mkS, srcOf0, unN, idxV, nilEq, give, tupV, mkEnv, extV, pickV, LVS, OVS, LTS, TYS, PMS, pmT, OWS, ownT, GHS, ghT, DMS, dmT, Int.reduceToNat, Nat.reduceGT, ↓reduceIte, Nat.reduceAdd, Nat.reduceMul, Nat.reduceSub, Nat.reduceEqDiff, Nat.reduceLeDiff, Nat.reduceLT, Nat.reduceBEq, Int.reduceBEq, Int.reduceBNe, Int.reduceEq, Int.reduceLT, Int.reduceLE, Int.reduceGT, Int.reduceNeg, reduceCtorEq, strs_len, wrap_in, c2, I1 (by omega)]
      rw [left, if_neg (by omega), show n - (ks.length : Int) - (bulkS ks : Int) = n - ((ks.length + bulkS ks : Nat) : Int) by omega]
theorem l_toStringS (ks : List (List UInt8)) (hl : ks.length ≤ 1048576) : ∀ (d i : Nat), ks.length - i = d → i ≤ ks.length →
    EV Try.prog pol (.loop 10 58 0 [.t (.list 1 (strs ks)), .sl 0 0 ks.length (some ks.length), .t (.int .i64 (i : Int))] [.ts 1 (fillE (strs ks) [.str []] i)]) = some (.loop (.exit 0) [.sl 0 0 ks.length (some ks.length)] [.ts 1 (strs ks)])
  | 0, i, hd, hi => by
    have hi' : i = ks.length := by omega
    subst hi'
    refine loop_eq Try.func10 rfl rfl ?_
    have c : decide (((ks.length : Nat) : Int) < ((ks.length : Nat) : Int)) = false := by simp
    have hf : fillE (strs ks) [.str []] ks.length = strs ks := by rw [← strs_len ks]; exact fillE_all _ _
    simp only [↓GO, ↓DRW, GA, ren, renB, footX, refs, cellsV, cst, cstAt, nilC, idxAddr, E.load, E.store, binO, isC, bin, ibin, sbin, una, isShift, okCell, packV, lenV, blt, fnV, asArg, snapV, snapS, snapP, snapC, snapX, flatV, flatT, openK, layBack, allT, allZ, mkS, srcOf0, unN, idxV, nilEq, give, tupV, mkEnv, extV, pickV, LVS, OVS, LTS, TYS, PMS, pmT, OWS, ownT, GHS, ghT, DMS, dmT, Int.reduceToNat, Nat.reduceGT, ↓reduceIte, Nat.reduceAdd, Nat.reduceMul, Nat.reduceSub, Nat.reduceEqDiff, Nat.reduceLeDiff, Nat.reduceLT, Nat.reduceBEq, Int.reduceBEq, Int.reduceBNe, Int.reduceEq, Int.reduceLT, Int.reduceLE, Int.reduceGT, Int.reduceNeg, reduceCtorEq, strs_len, c, hf]
  | d + 1, i, hd, hi => by
    have hlt : i < ks.length := by omega
    have hlt' : i < (strs ks).length := by rw [strs_len]; exact hlt
    have c : decide ((i : Int) < ((ks.length : Nat) : Int)) = true := by simp; omega
    have c0 : decide ((0 : Int) ≤ (i : Int)) = true := by simp
    have IH := l_toStringS ks hl d (i + 1) (by omega) (by omega)
    have e1 : (i : Int) + 1 = ((i + 1 : Nat) : Int) := by omega
    have hg := fillE_get (strs ks) [.str []] i hlt'
    have hs := fillE_set (strs ks) [.str []] i hlt'
    have hx : (strs ks)[i] = [.str ks[i]] := by simp [strs]
    rw [hx] at hs
    refine loop_eq Try.func10 rfl rfl ?_
    simp (disch := omega) only [↓GO, ↓DRW, GA, ren, renB, footX, refs, cellsV, cst, cstAt, nilC, idxAddr, E.load, E.store, binO, isC, bin, ibin, sbin, una, isShift, okCell, packV, lenV, blt, fnV, asArg, snapV, snapS, snapP, snapC, snapX, flatV, flatT, openK, layBack, allT, allZ, mkS, srcOf0, unN, idxV, nilEq, give, tupV, mkEnv, extV, pickV, LVS, OVS, LTS, TYS, PMS, pmT, OWS, ownT, GHS, ghT, DMS, dmT, Int.reduceToNat, Nat.reduceGT, ↓reduceIte, Nat.reduceAdd, Nat.reduceMul, Nat.reduceSub, Nat.reduceEqDiff, Nat.reduceLeDiff, Nat.reduceLT, Nat.reduceBEq, Int.reduceBEq, Int.reduceBNe, Int.reduceEq, Int.reduceLT, Int.reduceLE, Int.reduceGT, Int.reduceNeg, reduceCtorEq, strs_len, c, c0, strs_get ks i hlt, wrap_in, e1, hg, Int.toNat_natCast, hs]
    exact IH
theorem c_toStringS (ks : List (List UInt8)) (hl : ks.length ≤ 1048576) : callPure (EV Try.prog pol) 10 [.t (.list 1 (strs ks))] = some (.t (.list 1 (strs ks))) := by
  apply eq_call
  refine call_eq rfl Try.func10 rfl (by kernel_rfl) ?_
  unfold Try.f10
  have h1 : ¬ ((ks.length : Int) < 0) := by omega
  have h2 : ¬ (ks.length * 16 > 140737488355328) := by omega
  have h3 : ¬ (ks.length > 140737488355328) := by omega
  have hz : List.replicate ks.length [T.str []] = fillE (strs ks) [.str []] 0 := by rw [fillE_zero, strs_len]
  have IH := l_toStringS ks hl ks.length 0 (by omega) (by omega)
  simp only [Int.natCast_zero] at IH
  have ht : (strs ks).take ks.length = strs ks := by rw [← strs_len ks]; simp
  simp (disch := omega) only [↓GO, ↓DRW, GA, ren, renB, footX, refs, cellsV, cst, cstAt, nilC, idxAddr, E.load, E.store, binO, isC, bin, ibin, sbin, una, isShift, okCell, packV, lenV, blt, fnV, asArg, snapV, snapS, snapP, snapC, snapX, flatV, flatT, openK, layBack, allT, allZ, mkS, srcOf0, unN, idxV, nilEq, give, tupV, mkEnv, extV, pickV, LVS, OVS, LTS, TYS, PMS, pmT, OWS, ownT, GHS, ghT, DMS, dmT, Int.reduceToNat, Nat.reduceGT, ↓reduceIte, Nat.reduceAdd, Nat.reduceMul, Nat.reduceSub, Nat.reduceEqDiff, Nat.reduceLeDiff, Nat.reduceLT, Nat.reduceBEq, Int.reduceBEq, Int.reduceBNe, Int.reduceEq, Int.reduceLT, Int.reduceLE, Int.reduceGT, Int.reduceNeg, reduceCtorEq, strs_len, Int.toNat_natCast, h1, h2, h3, hz, IH, ne_eq, not_true_eq_false, ht]

theorem l_eqStringS (ks : List (List UInt8)) (hl : ks.length ≤ 4194304) : ∀ (d i : Nat), ks.length - i = d → i ≤ ks.length →
    EV Try.prog pol (.loop 14 58 0 [.t (.list 1 (strs ks)), .t (.list 1 (strs ks)), .t (.int .i64 (i : Int))] []) = some (.loop (.exit 0) [.bad] [])
  | 0, i, hd, hi => by
    have hi' : i = ks.length := by omega
    subst hi'
    refine loop_eq Try.func14 rfl rfl ?_
    have c : decide (((ks.length : Nat) : Int) < ((ks.length : Nat) : Int)) = false := by simp
    simp only [↓GO, ↓DRW, GA, ren, renB, footX, refs, cellsV, cst, cstAt, nilC, idxAddr, E.load, E.store, binO, isC, bin, ibin, sbin, una, isShift, okCell, packV, lenV, blt, fnV, asArg, snapV, snapS, snapP, snapC, snapX, flatV, flatT, openK, layBack, allT, allZ, mkS, srcOf0, unN, idxV, nilEq, give, tupV, mkEnv, extV, pickV, LVS, OVS, LTS, TYS, PMS, pmT, OWS, ownT, GHS, ghT, DMS, dmT, Int.reduceToNat, Nat.reduceGT, ↓reduceIte, Nat.reduceAdd, Nat.reduceMul, Nat.reduceSub, Nat.reduceEqDiff, Nat.reduceLeDiff, Nat.reduceLT, Nat.reduceBEq, Int.reduceBEq, Int.reduceBNe, Int.reduceEq, Int.reduceLT, Int.reduceLE, Int.reduceGT, Int.reduceNeg, reduceCtorEq, strs_len, c]
  | d + 1, i, hd, hi => by
    have hlt : i < ks.length := by omega
    have c : decide ((i : Int) < ((ks.length : Nat) : Int)) = true := by simp; omega
    have IH := l_eqStringS ks hl d (i + 1) (by omega) (by omega)
    have e1 : (i : Int) + 1 = ((i + 1 : Nat) : Int) := by omega
    refine loop_eq Try.func14 rfl rfl ?_
    simp (disch := omega) only [↓GO, ↓DRW, GA, ren, renB, footX, refs, cellsV, cst, cstAt, nilC, idxAddr, E.load, E.store, binO, isC, bin, ibin, sbin, una, isShift, okCell, packV, lenV, blt, fnV, asArg, snapV, snapS, snapP, snapC, snapX, flatV, flatT, openK, layBack, allT, allZ, mkS, srcOf0, unN, idxV, nilEq, give, tupV, mkEnv, extV, pickV, LVS, OVS, LTS, TYS, PMS, pmT, OWS, ownT, GHS, ghT, DMS, dmT, Int.reduceToNat, Nat.reduceGT, ↓reduceIte, Nat.reduceAdd, Nat.reduceMul, Nat.reduceSub, Nat.reduceEqDiff, Nat.reduceLeDiff, Nat.reduceLT, Nat.reduceBEq, Int.reduceBEq, Int.reduceBNe, Int.reduceEq, Int.reduceLT, Int.reduceLE, Int.reduceGT, Int.reduceNeg, reduceCtorEq, strs_len, c, strs_get ks i hlt, wrap_in, e1]
    exact IH
theorem c_eqStringS (ks : List (List UInt8)) (hl : ks.length ≤ 4194304) : callPure (EV Try.prog pol) 14 [.t (.list 1 (strs ks)), .t (.list 1 (strs ks))] = some (.t (.bool true)) := by
  apply eq_call
  refine call_eq rfl Try.func14 rfl (by kernel_rfl) ?_
  unfold Try.f14
  have IH := l_eqStringS ks hl ks.length 0 (by omega) (by omega)
  simp only [Int.natCast_zero] at IH
  simp only [↓GO, ↓DRW, GA, ren, renB, footX, refs, cellsV, cst, cstAt, nilC, idxAddr, E.load, E.store, binO, isC, bin, ibin, sbin, una, isShift, okCell, packV, lenV, blt, fnV, asArg, snapV, snapS, snapP, snapC, snapX, flatV, flatT, openK, layBack, allT, allZ, mkS, srcOf0, unN, idxV, nilEq, give, tupV, mkEnv, extV, pickV, LVS, OVS, LTS, TYS, PMS, pmT, OWS, ownT, GHS, ghT, DMS, dmT, Int.reduceToNat, Nat.reduceGT, ↓reduceIte, Nat.reduceAdd, Nat.reduceMul, Nat.reduceSub, Nat.reduceEqDiff, Nat.reduceLeDiff, Nat.reduceLT, Nat.reduceBEq, Int.reduceBEq, Int.reduceBNe, Int.reduceEq, Int.reduceLT, Int.reduceLE, Int.reduceGT, Int.reduceNeg, reduceCtorEq, strs_len, IH, bne_self_eq_false]
end Go.Proofs.Ytcphjdfmjhijkaa
/- What the laws' own functions do over Field, Table: sizes, copies, comparisons. Conditions: those of each lemma. -/
namespace Go.Proofs.Ytcphjdfmjhijkaa
open E
set_option linter.unusedSimpArgs false
set_option linter.unusedVariables false
set_option maxRecDepth 100000

structure LField where
  key : List UInt8
  text : List UInt8
  list : List (List UInt8)
  isList : Bool
def LField.enc (x : LField) : List T := [.str x.key, .str x.text, .list 1 (strs x.list), .bool x.isList]
def LField.encs (l : List LField) : List (List T) := l.map LField.enc
def LField.bulk (x : LField) : Nat := x.key.length + x.text.length + (x.list.length + bulkS x.list)
def LField.bulks : List LField → Nat
  | [] => 0
  | c :: cs => LField.bulk c + LField.bulks cs
def LField.ok (x : LField) : Prop := x.key.length ≤ 9223372036854775807 ∧ x.text.length ≤ 9223372036854775807 ∧ x.list.length ≤ 9223372036854775807 ∧ (∀ s ∈ x.list, s.length ≤ 9223372036854775807)
theorem LField.enc_len (x : LField) : x.enc.length = 4 := rfl
theorem LField.enc_take (x : LField) : x.enc.take 4 = x.enc := rfl
theorem LField.encs_len (cs : List LField) : (LField.encs cs).length = cs.length := by simp [LField.encs]
theorem LField.encs_get (cs : List LField) (i : Nat) (h : i < cs.length) : (LField.encs cs)[i]? = some cs[i].enc := by simp [LField.encs, h]
theorem LField.bulks_drop (cs : List LField) (i : Nat) (h : i < cs.length) : LField.bulks (cs.drop i) = cs[i].bulk + LField.bulks (cs.drop (i + 1)) := by
  rw [List.drop_eq_getElem_cons h]; rfl
theorem LField.bulks_mem : ∀ {cs : List LField} {c : LField}, c ∈ cs → c.bulk ≤ LField.bulks cs
  | c' :: cs, c, h => by
    simp only [LField.bulks]
    rcases List.mem_cons.1 h with rfl | h
    · omega
    · have := LField.bulks_mem h; omega
structure LTable where
  name : List UInt8
  fields : List LField
def LTable.enc (x : LTable) : List T := [.str x.name, .list 4 (LField.encs x.fields)]
def LTable.encs (l : List LTable) : List (List T) := l.map LTable.enc
def LTable.bulk (x : LTable) : Nat := x.name.length + (x.fields.length + LField.bulks x.fields)
def LTable.bulks : List LTable → Nat
  | [] => 0
  | c :: cs => LTable.bulk c + LTable.bulks cs
def LTable.ok (x : LTable) : Prop := x.name.length ≤ 9223372036854775807 ∧ x.fields.length ≤ 9223372036854775807 ∧ (∀ y ∈ x.fields, y.ok)
theorem LTable.enc_len (x : LTable) : x.enc.length = 2 := rfl
theorem LTable.enc_take (x : LTable) : x.enc.take 2 = x.enc := rfl
theorem LTable.encs_len (cs : List LTable) : (LTable.encs cs).length = cs.length := by simp [LTable.encs]
theorem LTable.encs_get (cs : List LTable) (i : Nat) (h : i < cs.length) : (LTable.encs cs)[i]? = some cs[i].enc := by simp [LTable.encs, h]
theorem LTable.bulks_drop (cs : List LTable) (i : Nat) (h : i < cs.length) : LTable.bulks (cs.drop i) = cs[i].bulk + LTable.bulks (cs.drop (i + 1)) := by
  rw [List.drop_eq_getElem_cons h]; rfl
theorem LTable.bulks_mem : ∀ {cs : List LTable} {c : LTable}, c ∈ cs → c.bulk ≤ LTable.bulks cs
  | c' :: cs, c, h => by
    simp only [LTable.bulks]
    rcases List.mem_cons.1 h with rfl | h
    · omega
    · have := LTable.bulks_mem h; omega
end Go.Proofs.Ytcphjdfmjhijkaa
/- What the laws' own functions do over Sum, Pack, Graph: sizes, copies, comparisons. Conditions: those of each lemma. -/
namespace Go.Proofs.Ytcphjdfmjhijkaa
open E
set_option linter.unusedSimpArgs false
set_option linter.unusedVariables false
set_option maxRecDepth 100000

structure LSum where
  alg : List UInt8
  bytes : List UInt8
def LSum.enc (x : LSum) : List T := [.str x.alg, .str x.bytes]
def LSum.encs (l : List LSum) : List (List T) := l.map LSum.enc
def LSum.bulk (x : LSum) : Nat := x.alg.length + x.bytes.length
def LSum.bulks : List LSum → Nat
  | [] => 0
  | c :: cs => LSum.bulk c + LSum.bulks cs
def LSum.ok (x : LSum) : Prop := x.alg.length ≤ 9223372036854775807 ∧ x.bytes.length ≤ 9223372036854775807
theorem LSum.enc_len (x : LSum) : x.enc.length = 2 := rfl
theorem LSum.enc_take (x : LSum) : x.enc.take 2 = x.enc := rfl
theorem LSum.encs_len (cs : List LSum) : (LSum.encs cs).length = cs.length := by simp [LSum.encs]
theorem LSum.encs_get (cs : List LSum) (i : Nat) (h : i < cs.length) : (LSum.encs cs)[i]? = some cs[i].enc := by simp [LSum.encs, h]
theorem LSum.bulks_drop (cs : List LSum) (i : Nat) (h : i < cs.length) : LSum.bulks (cs.drop i) = cs[i].bulk + LSum.bulks (cs.drop (i + 1)) := by
  rw [List.drop_eq_getElem_cons h]; rfl
theorem LSum.bulks_mem : ∀ {cs : List LSum} {c : LSum}, c ∈ cs → c.bulk ≤ LSum.bulks cs
  | c' :: cs, c, h => by
    simp only [LSum.bulks]
    rcases List.mem_cons.1 h with rfl | h
    · omega
    · have := LSum.bulks_mem h; omega
def SzSum (x : LSum) : Prop := ∀ n : Int, 0 ≤ n → n ≤ 1048576 → callPure (EV Try.prog pol) 58 [.agg (x.enc.map .t), .t (.int .i64 n)] = some (.t (.int .i64 (left n x.bulk)))
theorem c_szSum (x : LSum) (ho : x.ok) : SzSum x := by
  obtain ⟨alg, bytes⟩ := x
  intro n h0 h1
  simp only [LSum.ok] at ho
  simp only [LSum.enc, List.map_cons, List.map_nil]
  apply eq_call
  refine call_eq rfl Try.func58 rfl (by kernel_rfl) ?_
  unfold Try.f58
  repeat' (first | (((first | with_reducible refine cK_any (fun hA => ?_) (fun hA => ?_) | with_reducible refine gW_any (fun hA => ?_) (fun hA => ?_)) <;> (try simp only [bne, Bool.not_eq_true', Bool.not_eq_false'] at hA) <;> (first | (have hP := Int.le_of_eq (eq_of_beq (α := Int) hA); have hQ := Int.le_of_eq (eq_of_beq (α := Int) hA).symm) | have hP := of_decide_eq_true hA | have hP := of_decide_eq_false hA | skip)) <;> (simp (disch := ((try simp only [List.length_cons, List.length_append, List.length_nil, List.length_map]); omega)) only [↓GO, ↓DRW, GA, ren, renB, footX, refs, cellsV, cst, cstAt, nilC, idxAddr, E.load, E.store, binO, isC, bin, ibin, sbin, una, isShift, okCell, packV, lenV, blt, fnV, asArg, snapV, snapS, snapP, snapC, snapX, flatV, flatT, openK, layBack, allT, allZ, mkS, srcOf0, unN, idxV, nilEq, give, tupV, mkEnv, extV, pickV, LVS, OVS, LTS, TYS, PMS, pmT, OWS, ownT, GHS, ghT, DMS, dmT, Int.reduceToNat, Nat.reduceGT, ↓reduceIte, Nat.reduceAdd, Nat.reduceMul, Nat.reduceSub, Nat.reduceEqDiff, Nat.reduceLeDiff, Nat.reduceLT, Nat.reduceBEq, Int.reduceBEq, Int.reduceBNe, Int.reduceEq, Int.reduceLT, Int.reduceLE, Int.reduceGT, Int.reduceNeg, reduceCtorEq, wrap_in, bne, left_lt, left_eq, *])) | (simp (disch := ((try simp only [List.length_cons, List.length_append, List.length_nil, List.length_map]); omega)) only [↓GO, ↓DRW, GA, ren, renB, footX, refs, cellsV, cst, cstAt, nilC, idxAddr, E.load, E.store, binO, isC, bin, ibin, sbin, una, isShift, okCell, packV, lenV, blt, fnV, asArg, snapV, snapS, snapP, snapC, snapX, flatV, flatT, openK, layBack, allT, allZ, mkS, srcOf0, unN, idxV, nilEq, give, tupV, mkEnv, extV, pickV, LVS, OVS, LTS, TYS, PMS, pmT, OWS, ownT, GHS, ghT, DMS, dmT, Int.reduceToNat, Nat.reduceGT, ↓reduceIte, Nat.reduceAdd, Nat.reduceMul, Nat.reduceSub, Nat.reduceEqDiff, Nat.reduceLeDiff, Nat.reduceLT, Nat.reduceBEq, Int.reduceBEq, Int.reduceBNe, Int.reduceEq, Int.reduceLT, Int.reduceLE, Int.reduceGT, Int.reduceNeg, reduceCtorEq, wrap_in, bne, left_lt, left_eq, *]))
  all_goals (refine left_leaf' ?_; simp only [LSum.bulk, and_true]; omega)
theorem l_szSumS (cs : List LSum) (hl : cs.length ≤ 9223372036854775807) (hc : ∀ c ∈ cs, SzSum c) : ∀ (d i : Nat) (n : Int), cs.length - i = d → i ≤ cs.length → 0 ≤ n → n ≤ 1048576 →
    (0 ≤ n - (LSum.bulks (cs.drop i) : Int) → EV Try.prog pol (.loop 55 122 0 [.t (.list 2 (LSum.encs cs)), .t (.int .i64 n), .t (.int .i64 (i : Int))] []) = some (.loop (.exit 0) [.t (.int .i64 (n - (LSum.bulks (cs.drop i) : Int))), .bad] [])) ∧
    (n - (LSum.bulks (cs.drop i) : Int) < 0 → ∃ v, EV Try.prog pol (.loop 55 122 0 [.t (.list 2 (LSum.encs cs)), .t (.int .i64 n), .t (.int .i64 (i : Int))] []) = some (.loop .ret [v, .t (.int .i64 (-1))] []))
  | 0, i, n, hd, hi, h0, h1 => by
    have hi' : i = cs.length := by omega
    subst hi'
    have hb : LSum.bulks (cs.drop cs.length) = 0 := by simp [LSum.bulks]
    rw [hb]
    refine ⟨fun _ => ?_, fun h => by omega⟩
    refine loop_eq Try.func55 rfl rfl ?_
    have c : decide (((cs.length : Nat) : Int) < ((cs.length : Nat) : Int)) = false := by simp
    simp only [↓GO, ↓DRW, GA, ren, renB, footX, refs, cellsV, cst, cstAt, nilC, idxAddr, E.load, E.store, binO, isC, bin, ibin, sbin, una, isShift, okCell, packV, lenV, blt, fnV, asArg, snapV, snapS, snapP, snapC, snapX, flatV, flatT, openK, layBack, allT, allZ, mkS, srcOf0, unN, idxV, nilEq, give, tupV, mkEnv, extV, pickV, LVS, OVS, LTS, TYS, PMS, pmT, OWS, ownT, GHS, ghT, DMS, dmT, Int.reduceToNat, Nat.reduceGT, ↓reduceIte, Nat.reduceAdd, Nat.reduceMul, Nat.reduceSub, Nat.reduceEqDiff, Nat.reduceLeDiff, Nat.reduceLT, Nat.reduceBEq, Int.reduceBEq, Int.reduceBNe, Int.reduceEq, Int.reduceLT, Int.reduceLE, Int.reduceGT, Int.reduceNeg, reduceCtorEq, LSum.encs_len, c]
    simp
  | d + 1, i, n, hd, hi, h0, h1 => by
    have hlt : i < cs.length := by omega
    rw [LSum.bulks_drop cs i hlt]
    have c : decide ((i : Int) < ((cs.length : Nat) : Int)) = true := by simp; omega
    have hcall := hc _ (List.getElem_mem hlt) n h0 h1
    have hget := LSum.encs_get cs i hlt
    generalize hci : cs[i] = ci at hcall hget
    obtain ⟨alg, bytes⟩ := ci
    simp only [LSum.enc, List.map_cons, List.map_nil] at hcall hget
    generalize hbu : (LSum.mk alg bytes).bulk = bu at hcall
    have IH := l_szSumS cs hl hc d (i + 1) (n - (bu : Int)) (by omega) (by omega)
    have e1 : (i : Int) + 1 = ((i + 1 : Nat) : Int) := by omega
    by_cases hneg : n - (bu : Int) < 0
    · refine ⟨fun h => by omega, fun _ => ⟨.t (.int .i64 (-1)), ?_⟩⟩
      refine loop_eq Try.func55 rfl rfl ?_
      have hle : left n bu = -1 := if_pos hneg
      rw [hle] at hcall
      simp (disch := omega) only [↓GO, ↓DRW, GA, ren, renB, footX, refs, cellsV, cst, cstAt, nilC, idxAddr, E.load, E.store, binO, isC, bin, ibin, sbin, una, isShift, okCell, packV, lenV, blt, fnV, asArg, snapV, snapS, snapP, snapC, snapX, flatV, flatT, openK, layBack, allT, allZ, mkS, srcOf0, unN, idxV, nilEq, give, tupV, mkEnv, extV, pickV, LVS, OVS, LTS, TYS, PMS, pmT, OWS, ownT, GHS, ghT, DMS, dmT, Int.reduceToNat, Nat.reduceGT, ↓reduceIte, Nat.reduceAdd, Nat.reduceMul, Nat.reduceSub, Nat.reduceEqDiff, Nat.reduceLeDiff, Nat.reduceLT, Nat.reduceBEq, Int.reduceBEq, Int.reduceBNe, Int.reduceEq, Int.reduceLT, Int.reduceLE, Int.reduceGT, Int.reduceNeg, reduceCtorEq, LSum.encs_len, c, hget, wrap_in, hcall]
    · have hle : left n bu = n - (bu : Int) := if_neg hneg
      rw [hle] at hcall
      have c2 : decide (n - (bu : Int) < 0) = false := by simpa using hneg
      obtain ⟨I1, I2⟩ := IH (by omega) (by omega)
      refine ⟨fun h => ?_, fun h => ?_⟩
      · refine loop_eq Try.func55 rfl rfl ?_
        simp (disch := omega) only [↓GO, ↓DRW, GA, ren, renB, footX, refs, cellsV, cst, cstAt, nilC, idxAddr, E.load, E.store, binO, isC, bin, ibin, sbin, una, isShift, okCell, packV, lenV, blt, fnV, asArg, snapV, snapS, snapP, snapC, snapX, flatV, flatT, openK, layBack, allT, allZ, mkS, srcOf0, unN, idxV, nilEq, give, tupV, mkEnv, extV, pickV, LVS, OVS, LTS, TYS, PMS, pmT, OWS, ownT, GHS, ghT, DMS, dmT, Int.reduceToNat, Nat.reduceGT, ↓reduceIte, Nat.reduceAdd, Nat.reduceMul, Nat.reduceSub, Nat.reduceEqDiff, Nat.reduceLeDiff, Nat.reduceLT, Nat.reduceBEq, Int.reduceBEq, Int.reduceBNe, Int.reduceEq, Int.reduceLT, Int.reduceLE, Int.reduceGT, Int.reduceNeg, reduceCtorEq, LSum.encs_len, c, hget, wrap_in, hcall, c2, e1]
        rw [I1 (by omega), show n - (bu : Int) - (LSum.bulks (cs.drop (i + 1)) : Int) = n - ((bu + LSum.bulks (cs.drop (i + 1)) : Nat) : Int) by omega]
      · obtain ⟨v, hv⟩ := I2 (by omega)
        refine ⟨v, ?_⟩
        refine loop_eq Try.func55 rfl rfl ?_
        simp (disch := omega) only [↓GO, ↓DRW, GA, ren, renB, footX, refs, cellsV, cst, cstAt, nilC, idxAddr, E.load, E.store, binO, isC, bin, ibin, sbin, una, isShift, okCell, packV, lenV, blt, fnV, asArg, snapV, snapS, snapP, snapC, snapX, flatV, flatT, openK, layBack, allT, allZ, mkS, srcOf0, unN, idxV, nilEq, give, tupV, mkEnv, extV, pickV, LVS, OVS, LTS, TYS, PMS, pmT, OWS, ownT, GHS, ghT, DMS, dmT, Int.reduceToNat, Nat.reduceGT, ↓reduceIte, Nat.reduceAdd, Nat.reduceMul, Nat.reduceSub, Nat.reduceEqDiff, Nat.reduceLeDiff, Nat.reduceLT, Nat.reduceBEq, Int.reduceBEq, Int.reduceBNe, Int.reduceEq, Int.reduceLT, Int.reduceLE, Int.reduceGT, Int.reduceNeg, reduceCtorEq, LSum.encs_len, c, hget, wrap_in, hcall, c2, e1]
        exact hv
theorem c_szSumS (cs : List LSum) (hl : cs.length ≤ 9223372036854775807) (hc : ∀ c ∈ cs, SzSum c) (n : Int) (h0 : 0 ≤ n) (h1 : n ≤ 1048576) :
    callPure (EV Try.prog pol) 55 [.t (.list 2 (LSum.encs cs)), .t (.int .i64 n)] = some (.t (.int .i64 (left n (cs.length + LSum.bulks cs)))) := by
  apply eq_call
  refine call_eq rfl Try.func55 rfl (by kernel_rfl) ?_
  unfold Try.f55
  by_cases hneg : n - (cs.length : Int) < 0
  · have c2 : decide (n - (cs.length : Int) < 0) = true := by simpa using hneg
    simp (disch := omega) only [↓GO, ↓DRW, GA, ren, renB, footX, refs, cellsV, cst, cstAt, nilC, idxAddr, E.load, E.store, binO, isC, bin, ibin, sbin, una, isShift, okCell, packV, lenV, blt, fnV, asArg, snapV, snapS, snapP, snapC, snapX, flatV, flatT, openK, layBack, allT, allZ, mkS, srcOf0, unN, idxV, nilEq, give, tupV, mkEnv, extV, pickV, LVS, OVS, LTS, TYS, PMS, pmT, OWS, ownT, GHS, ghT, DMS, dmT, Int.reduceToNat, Nat.reduceGT, ↓reduceIte, Nat.reduceAdd, Nat.reduceMul, Nat.reduceSub, Nat.reduceEqDiff, Nat.reduceLeDiff, Nat.reduceLT, Nat.reduceBEq, Int.reduceBEq, Int.reduceBNe, Int.reduceEq, Int.reduceLT, Int.reduceLE, Int.reduceGT, Int.reduceNeg, reduceCtorEq, LSum.encs_len, wrap_in, c2]
    rw [left, if_pos (by omega)]
  · have c2 : decide (n - (cs.length : Int) < 0) = false := by simpa using hneg
    obtain ⟨I1, I2⟩ := l_szSumS cs hl hc cs.length 0 (n - (cs.length : Int)) (by omega) (by omega) (by omega) (by omega)
    simp only [List.drop_zero, Int.natCast_zero] at I1 I2
    by_cases hn2 : n - (cs.length : Int) - (LSum.bulks cs : Int) < 0
    · obtain ⟨v, hv⟩ := I2 hn2
      simp (disch := omega) only [↓GO, ↓DRW, GA, ren, renB, footX, refs, cellsV, cst, cstAt, nilC, idxAddr, E.load, E.store, binO, isC, bin, ibin, sbin, una, isShift, okCell, packV, lenV, blt, fnV, asArg, snapV, snapS, snapP, snapC, snapX, flatV, flatT, openK, layBack, allT, allZ, mkS, srcOf0, unN, idxV, nilEq, give, tupV, mkEnv, extV, pickV, LVS, OVS, LTS, TYS, PMS, pmT, OWS, ownT, GHS, ghT, DMS, dmT, Int.reduceToNat, Nat.reduceGT, ↓reduceIte, Nat.reduceAdd, Nat.reduceMul, Nat.reduceSub, Nat.reduceEqDiff, Nat.reduceLeDiff, Nat.reduceLT, Nat.reduceBEq, Int.reduceBEq, Int.reduceBNe, Int.reduceEq, Int.reduceLT, Int.reduceLE, Int.reduceGT, Int.reduceNeg, reduceCtorEq, LSum.encs_len, wrap_in, c2, hv]
      rw [left, if_pos (by omega)]
    · simp (disch := omega) only [↓GO, ↓DRW, GA, ren, renB, footX, refs, cellsV, cst, cstAt, nilC, idxAddr, E.load, E.store, binO, isC, bin, ibin, sbin, una, isShift, okCell, packV, lenV, blt, fnV, asArg, snapV, snapS, snapP, snapC, snapX, flatV, flatT, openK, layBack, allT, allZ, mkS, srcOf0, unN, idxV, nilEq, give, tupV, mkEnv, extV, pickV, LVS, OVS, LTS, TYS, PMS, pmT, OWS, ownT, GHS, ghT, DMS, dmT, Int.reduceToNat, Nat.reduceGT, ↓reduceIte, Nat.reduceAdd, Nat.reduceMul, Nat.reduceSub, Nat.reduceEqDiff, Nat.reduceLeDiff, Nat.reduceLT, Nat.reduceBEq, Int.reduceBEq, Int.reduceBNe, Int.reduceEq, Int.reduceLT, Int.reduceLE, Int.reduceGT, Int.reduceNeg, reduceCtorEq, LSum.encs_len, wrap_in, c2, I1 (by omega)]
      rw [left, if_neg (by omega), show n - (cs.length : Int) - (LSum.bulks cs : Int) = n - ((cs.length + LSum.bulks cs : Nat) : Int) by omega]
def ToSum (x : LSum) : Prop := callPure (EV Try.prog pol) 59 [.agg (x.enc.map .t)] = some (.agg (x.enc.map .t))
theorem c_toSum (x : LSum) (ho : x.bulk ≤ 1048576) : ToSum x := by
  obtain ⟨alg, bytes⟩ := x
  simp only [LSum.bulk] at ho
  simp only [ToSum, LSum.enc, List.map_cons, List.map_nil]
  apply eq_call
  refine call_eq rfl Try.func59 rfl (by kernel_rfl) ?_
  unfold Try.f59
  simp only [↓GO, ↓DRW, GA, ren, renB, footX, refs, cellsV, cst, cstAt, nilC, idxAddr, E.load, E.store, binO, isC, bin, ibin, sbin, una, isShift, okCell, packV, lenV, blt, fnV, asArg, snapV, snapS, snapP, snapC, snapX, flatV, flatT, openK, layBack, allT, allZ, mkS, srcOf0, unN, idxV, nilEq, give, tupV, mkEnv, extV, pickV, LVS, OVS, LTS, TYS, PMS, pmT, OWS, ownT, GHS, ghT, DMS, dmT, Int.reduceToNat, Nat.reduceGT, ↓reduceIte, Nat.reduceAdd, Nat.reduceMul, Nat.reduceSub, Nat.reduceEqDiff, Nat.reduceLeDiff, Nat.reduceLT, Nat.reduceBEq, Int.reduceBEq, Int.reduceBNe, Int.reduceEq, Int.reduceLT, Int.reduceLE, Int.reduceGT, Int.reduceNeg, reduceCtorEq]
def zSum : List T := [.str [], .str []]
theorem l_toSumS (cs : List LSum) (hl : cs.length ≤ 1048576) (hc : ∀ c ∈ cs, ToSum c) : ∀ (d i : Nat), cs.length - i = d → i ≤ cs.length →
    EV Try.prog pol (.loop 56 58 0 [.t (.list 2 (LSum.encs cs)), .sl 0 0 cs.length (some cs.length), .t (.int .i64 (i : Int))] [.ts 2 (fillE (LSum.encs cs) zSum i)]) = some (.loop (.exit 0) [.sl 0 0 cs.length (some cs.length)] [.ts 2 (LSum.encs cs)])
  | 0, i, hd, hi => by
    have hi' : i = cs.length := by omega
    subst hi'
    refine loop_eq Try.func56 rfl rfl ?_
    have c : decide (((cs.length : Nat) : Int) < ((cs.length : Nat) : Int)) = false := by simp
    have hf : fillE (LSum.encs cs) zSum cs.length = LSum.encs cs := by rw [← LSum.encs_len cs]; exact fillE_all _ _
    simp only [↓GO, ↓DRW, GA, ren, renB, footX, refs, cellsV, cst, cstAt, nilC, idxAddr, E.load, E.store, binO, isC, bin, ibin, sbin, una, isShift, okCell, packV, lenV, blt, fnV, asArg, snapV, snapS, snapP, snapC, snapX, flatV, flatT, openK, layBack, allT, allZ, mkS, srcOf0, unN, idxV, nilEq, give, tupV, mkEnv, extV, pickV, LVS, OVS, LTS, TYS, PMS, pmT, OWS, ownT, GHS, ghT, DMS, dmT, Int.reduceToNat, Nat.reduceGT, ↓reduceIte, Nat.reduceAdd, Nat.reduceMul, Nat.reduceSub, Nat.reduceEqDiff, Nat.reduceLeDiff, Nat.reduceLT, Nat.reduceBEq, Int.reduceBEq, Int.reduceBNe, Int.reduceEq, Int.reduceLT, Int.reduceLE, Int.reduceGT, Int.reduceNeg, reduceCtorEq, LSum.encs_len, c, hf]
  | d + 1, i, hd, hi => by
    have hlt : i < cs.length := by omega
    have hlt' : i < (LSum.encs cs).length := by rw [LSum.encs_len]; exact hlt
    have c : decide ((i : Int) < ((cs.length : Nat) : Int)) = true := by simp; omega
    have c0 : decide ((0 : Int) ≤ (i : Int)) = true := by simp
    have IH := l_toSumS cs hl hc d (i + 1) (by omega) (by omega)
    have e1 : (i : Int) + 1 = ((i + 1 : Nat) : Int) := by omega
    have hg : (fillE (LSum.encs cs) zSum i)[i]? = some [.str [], .str []] := fillE_get (LSum.encs cs) zSum i hlt'
    have hs := fillE_set (LSum.encs cs) zSum i hlt'
    have hx : (LSum.encs cs)[i] = cs[i].enc := by simp [LSum.encs]
    rw [hx] at hs
    have hcall := hc _ (List.getElem_mem hlt)
    have hget := LSum.encs_get cs i hlt
    generalize hci : cs[i] = ci at hcall hget hs
    obtain ⟨alg, bytes⟩ := ci
    simp only [ToSum, LSum.enc, List.map_cons, List.map_nil] at hcall hget hs
    refine loop_eq Try.func56 rfl rfl ?_
    simp (disch := omega) only [↓GO, ↓DRW, GA, ren, renB, footX, refs, cellsV, cst, cstAt, nilC, idxAddr, E.load, E.store, binO, isC, bin, ibin, sbin, una, isShift, okCell, packV, lenV, blt, fnV, asArg, snapV, snapS, snapP, snapC, snapX, flatV, flatT, openK, layBack, allT, allZ, mkS, srcOf0, unN, idxV, nilEq, give, tupV, mkEnv, extV, pickV, LVS, OVS, LTS, TYS, PMS, pmT, OWS, ownT, GHS, ghT, DMS, dmT, Int.reduceToNat, Nat.reduceGT, ↓reduceIte, Nat.reduceAdd, Nat.reduceMul, Nat.reduceSub, Nat.reduceEqDiff, Nat.reduceLeDiff, Nat.reduceLT, Nat.reduceBEq, Int.reduceBEq, Int.reduceBNe, Int.reduceEq, Int.reduceLT, Int.reduceLE, Int.reduceGT, Int.reduceNeg, reduceCtorEq, LSum.encs_len, c, c0, hget, wrap_in, e1, hg, Int.toNat_natCast, hcall, hs]
    exact IH
theorem c_toSumS (cs : List LSum) (hl : cs.length ≤ 1048576) (hc : ∀ c ∈ cs, ToSum c) : callPure (EV Try.prog pol) 56 [.t (.list 2 (LSum.encs cs))] = some (.t (.list 2 (LSum.encs cs))) := by
  apply eq_call
  refine call_eq rfl Try.func56 rfl (by kernel_rfl) ?_
  unfold Try.f56
  have h1 : ¬ ((cs.length : Int) < 0) := by omega
  have h2 : ¬ (cs.length * 32 > 140737488355328) := by omega
  have h3 : ¬ (cs.length > 140737488355328) := by omega
  have hz : List.replicate cs.length [T.str [], .str []] = fillE (LSum.encs cs) zSum 0 := by rw [fillE_zero, LSum.encs_len]; rfl
  have IH := l_toSumS cs hl hc cs.length 0 (by omega) (by omega)
  simp only [Int.natCast_zero] at IH
  have ht : (LSum.encs cs).take cs.length = LSum.encs cs := by rw [← LSum.encs_len cs]; simp
  simp (disch := omega) only [↓GO, ↓DRW, GA, ren, renB, footX, refs, cellsV, cst, cstAt, nilC, idxAddr, E.load, E.store, binO, isC, bin, ibin, sbin, una, isShift, okCell, packV, lenV, blt, fnV, asArg, snapV, snapS, snapP, snapC, snapX, flatV, flatT, openK, layBack, allT, allZ, mkS, srcOf0, unN, idxV, nilEq, give, tupV, mkEnv, extV, pickV, LVS, OVS, LTS, TYS, PMS, pmT, OWS, ownT, GHS, ghT, DMS, dmT, Int.reduceToNat, Nat.reduceGT, ↓reduceIte, Nat.reduceAdd, Nat.reduceMul, Nat.reduceSub, Nat.reduceEqDiff, Nat.reduceLeDiff, Nat.reduceLT, Nat.reduceBEq, Int.reduceBEq, Int.reduceBNe, Int.reduceEq, Int.reduceLT, Int.reduceLE, Int.reduceGT, Int.reduceNeg, reduceCtorEq, LSum.encs_len, Int.toNat_natCast, h1, h2, h3, hz, IH, ne_eq, not_true_eq_false, ht]
def EqSum (x : LSum) : Prop := callPure (EV Try.prog pol) 60 [.agg (x.enc.map .t), .agg (x.enc.map .t)] = some (.t (.bool true))
theorem c_eqSum (x : LSum) (ho : x.bulk ≤ 4194304) : EqSum x := by
  obtain ⟨alg, bytes⟩ := x
  simp only [LSum.bulk] at ho
  simp only [EqSum, LSum.enc, List.map_cons, List.map_nil]
  apply eq_call
  refine call_eq rfl Try.func60 rfl (by kernel_rfl) ?_
  unfold Try.f60
  simp only [↓GO, ↓DRW, GA, ren, renB, footX, refs, cellsV, cst, cstAt, nilC, idxAddr, E.load, E.store, binO, isC, bin, ibin, sbin, una, isShift, okCell, packV, lenV, blt, fnV, asArg, snapV, snapS, snapP, snapC, snapX, flatV, flatT, openK, layBack, allT, allZ, mkS, srcOf0, unN, idxV, nilEq, give, tupV, mkEnv, extV, pickV, LVS, OVS, LTS, TYS, PMS, pmT, OWS, ownT, GHS, ghT, DMS, dmT, Int.reduceToNat, Nat.reduceGT, ↓reduceIte, Nat.reduceAdd, Nat.reduceMul, Nat.reduceSub, Nat.reduceEqDiff, Nat.reduceLeDiff, Nat.reduceLT, Nat.reduceBEq, Int.reduceBEq, Int.reduceBNe, Int.reduceEq, Int.reduceLT, Int.reduceLE, Int.reduceGT, Int.reduceNeg, reduceCtorEq, bne_self_eq_false]
theorem l_eqSumS (cs : List LSum) (hl : cs.length ≤ 4194304) (hc : ∀ c ∈ cs, EqSum c) : ∀ (d i : Nat), cs.length - i = d → i ≤ cs.length →
    EV Try.prog pol (.loop 57 58 0 [.t (.list 2 (LSum.encs cs)), .t (.list 2 (LSum.encs cs)), .t (.int .i64 (i : Int))] []) = some (.loop (.exit 0) [.bad] [])
  | 0, i, hd, hi => by
    have hi' : i = cs.length := by omega
    subst hi'
    refine loop_eq Try.func57 rfl rfl ?_
    have c : decide (((cs.length : Nat) : Int) < ((cs.length : Nat) : Int)) = false := by simp
    simp only [↓GO, ↓DRW, GA, ren, renB, footX, refs, cellsV, cst, cstAt, nilC, idxAddr, E.load, E.store, binO, isC, bin, ibin, sbin, una, isShift, okCell, packV, lenV, blt, fnV, asArg, snapV, snapS, snapP, snapC, snapX, flatV, flatT, openK, layBack, allT, allZ, mkS, srcOf0, unN, idxV, nilEq, give, tupV, mkEnv, extV, pickV, LVS, OVS, LTS, TYS, PMS, pmT, OWS, ownT, GHS, ghT, DMS, dmT, Int.reduceToNat, Nat.reduceGT, ↓reduceIte, Nat.reduceAdd, Nat.reduceMul, Nat.reduceSub, Nat.reduceEqDiff, Nat.reduceLeDiff, Nat.reduceLT, Nat.reduceBEq, Int.reduceBEq, Int.reduceBNe, Int.reduceEq, Int.reduceLT, Int.reduceLE, Int.reduceGT, Int.reduceNeg, reduceCtorEq, LSum.encs_len, c]
  | d + 1, i, hd, hi => by
    have hlt : i < cs.length := by omega
    have c : decide ((i : Int) < ((cs.length : Nat) : Int)) = true := by simp; omega
    have IH := l_eqSumS cs hl hc d (i + 1) (by omega) (by omega)
    have e1 : (i : Int) + 1 = ((i + 1 : Nat) : Int) := by omega
    have hcall := hc _ (List.getElem_mem hlt)
    have hget := LSum.encs_get cs i hlt
    generalize hci : cs[i] = ci at hcall hget
    obtain ⟨alg, bytes⟩ := ci
    simp only [EqSum, LSum.enc, List.map_cons, List.map_nil] at hcall hget
    refine loop_eq Try.func57 rfl rfl ?_
    simp (disch := omega) only [↓GO, ↓DRW, GA, ren, renB, footX, refs, cellsV, cst, cstAt, nilC, idxAddr, E.load, E.store, binO, isC, bin, ibin, sbin, una, isShift, okCell, packV, lenV, blt, fnV, asArg, snapV, snapS, snapP, snapC, snapX, flatV, flatT, openK, layBack, allT, allZ, mkS, srcOf0, unN, idxV, nilEq, give, tupV, mkEnv, extV, pickV, LVS, OVS, LTS, TYS, PMS, pmT, OWS, ownT, GHS, ghT, DMS, dmT, Int.reduceToNat, Nat.reduceGT, ↓reduceIte, Nat.reduceAdd, Nat.reduceMul, Nat.reduceSub, Nat.reduceEqDiff, Nat.reduceLeDiff, Nat.reduceLT, Nat.reduceBEq, Int.reduceBEq, Int.reduceBNe, Int.reduceEq, Int.reduceLT, Int.reduceLE, Int.reduceGT, Int.reduceNeg, reduceCtorEq, LSum.encs_len, c, hget, wrap_in, e1, hcall]
    exact IH
theorem c_eqSumS (cs : List LSum) (hl : cs.length ≤ 4194304) (hc : ∀ c ∈ cs, EqSum c) : callPure (EV Try.prog pol) 57 [.t (.list 2 (LSum.encs cs)), .t (.list 2 (LSum.encs cs))] = some (.t (.bool true)) := by
  apply eq_call
  refine call_eq rfl Try.func57 rfl (by kernel_rfl) ?_
  unfold Try.f57
  have IH := l_eqSumS cs hl hc cs.length 0 (by omega) (by omega)
  simp only [Int.natCast_zero] at IH
  simp only [↓GO, ↓DRW, GA, ren, renB, footX, refs, cellsV, cst, cstAt, nilC, idxAddr, E.load, E.store, binO, isC, bin, ibin, sbin, una, isShift, okCell, packV, lenV, blt, fnV, asArg, snapV, snapS, snapP, snapC, snapX, flatV, flatT, openK, layBack, allT, allZ, mkS, srcOf0, unN, idxV, nilEq, give, tupV, mkEnv, extV, pickV, LVS, OVS, LTS, TYS, PMS, pmT, OWS, ownT, GHS, ghT, DMS, dmT, Int.reduceToNat, Nat.reduceGT, ↓reduceIte, Nat.reduceAdd, Nat.reduceMul, Nat.reduceSub, Nat.reduceEqDiff, Nat.reduceLeDiff, Nat.reduceLT, Nat.reduceBEq, Int.reduceBEq, Int.reduceBNe, Int.reduceEq, Int.reduceLT, Int.reduceLE, Int.reduceGT, Int.reduceNeg, reduceCtorEq, LSum.encs_len, IH, bne_self_eq_false]
structure LPack where
  name : List UInt8
  version : List UInt8
  source : List UInt8
  sums : List LSum
  dev : Bool
  needs : List (List UInt8)
def LPack.enc (x : LPack) : List T := [.str x.name, .str x.version, .str x.source, .list 2 (LSum.encs x.sums), .bool x.dev, .list 1 (strs x.needs)]
def LPack.encs (l : List LPack) : List (List T) := l.map LPack.enc
def LPack.bulk (x : LPack) : Nat := x.name.length + x.version.length + x.source.length + (x.sums.length + LSum.bulks x.sums) + (x.needs.length + bulkS x.needs)
def LPack.bulks : List LPack → Nat
  | [] => 0
  | c :: cs => LPack.bulk c + LPack.bulks cs
def LPack.ok (x : LPack) : Prop := x.name.length ≤ 9223372036854775807 ∧ x.version.length ≤ 9223372036854775807 ∧ x.source.length ≤ 9223372036854775807 ∧ x.sums.length ≤ 9223372036854775807 ∧ (∀ y ∈ x.sums, y.ok) ∧ x.needs.length ≤ 9223372036854775807 ∧ (∀ s ∈ x.needs, s.length ≤ 9223372036854775807)
theorem LPack.enc_len (x : LPack) : x.enc.length = 6 := rfl
theorem LPack.enc_take (x : LPack) : x.enc.take 6 = x.enc := rfl
theorem LPack.encs_len (cs : List LPack) : (LPack.encs cs).length = cs.length := by simp [LPack.encs]
theorem LPack.encs_get (cs : List LPack) (i : Nat) (h : i < cs.length) : (LPack.encs cs)[i]? = some cs[i].enc := by simp [LPack.encs, h]
theorem LPack.bulks_drop (cs : List LPack) (i : Nat) (h : i < cs.length) : LPack.bulks (cs.drop i) = cs[i].bulk + LPack.bulks (cs.drop (i + 1)) := by
  rw [List.drop_eq_getElem_cons h]; rfl
theorem LPack.bulks_mem : ∀ {cs : List LPack} {c : LPack}, c ∈ cs → c.bulk ≤ LPack.bulks cs
  | c' :: cs, c, h => by
    simp only [LPack.bulks]
    rcases List.mem_cons.1 h with rfl | h
    · omega
    · have := LPack.bulks_mem h; omega
def SzPack (x : LPack) : Prop := ∀ n : Int, 0 ≤ n → n ≤ 1048576 → callPure (EV Try.prog pol) 48 [.agg (x.enc.map .t), .t (.int .i64 n)] = some (.t (.int .i64 (left n x.bulk)))
theorem c_szPack (x : LPack) (ho : x.ok) : SzPack x := by
  obtain ⟨name, version, source, sums, dev, needs⟩ := x
  intro n h0 h1
  simp only [LPack.ok] at ho
  simp only [LPack.enc, List.map_cons, List.map_nil]
  apply eq_call
  refine call_eq rfl Try.func48 rfl (by kernel_rfl) ?_
  unfold Try.f48
  have k_sums := c_szSumS sums (by first | exact ho.1 | simp_all) (fun c hc => c_szSum c (by simp_all))
  have k_needs := c_szStringS needs (by first | exact ho.1 | simp_all) (by first | exact ho.2 | simp_all)
  repeat' (first | (((first | with_reducible refine cK_any (fun hA => ?_) (fun hA => ?_) | with_reducible refine gW_any (fun hA => ?_) (fun hA => ?_)) <;> (try simp only [bne, Bool.not_eq_true', Bool.not_eq_false'] at hA) <;> (first | (have hP := Int.le_of_eq (eq_of_beq (α := Int) hA); have hQ := Int.le_of_eq (eq_of_beq (α := Int) hA).symm) | have hP := of_decide_eq_true hA | have hP := of_decide_eq_false hA | skip)) <;> (simp (disch := ((try simp only [List.length_cons, List.length_append, List.length_nil, List.length_map]); omega)) only [↓GO, ↓DRW, GA, ren, renB, footX, refs, cellsV, cst, cstAt, nilC, idxAddr, E.load, E.store, binO, isC, bin, ibin, sbin, una, isShift, okCell, packV, lenV, blt, fnV, asArg, snapV, snapS, snapP, snapC, snapX, flatV, flatT, openK, layBack, allT, allZ, mkS, srcOf0, unN, idxV, nilEq, give, tupV, mkEnv, extV, pickV, LVS, OVS, LTS, TYS, PMS, pmT, OWS, ownT, GHS, ghT, DMS, dmT, Int.reduceToNat, Nat.reduceGT, ↓reduceIte, Nat.reduceAdd, Nat.reduceMul, Nat.reduceSub, Nat.reduceEqDiff, Nat.reduceLeDiff, Nat.reduceLT, Nat.reduceBEq, Int.reduceBEq, Int.reduceBNe, Int.reduceEq, Int.reduceLT, Int.reduceLE, Int.reduceGT, Int.reduceNeg, reduceCtorEq, wrap_in, bne, left_lt, left_eq, k_sums, k_needs, *])) | (simp (disch := ((try simp only [List.length_cons, List.length_append, List.length_nil, List.length_map]); omega)) only [↓GO, ↓DRW, GA, ren, renB, footX, refs, cellsV, cst, cstAt, nilC, idxAddr, E.load, E.store, binO, isC, bin, ibin, sbin, una, isShift, okCell, packV, lenV, blt, fnV, asArg, snapV, snapS, snapP, snapC, snapX, flatV, flatT, openK, layBack, allT, allZ, mkS, srcOf0, unN, idxV, nilEq, give, tupV, mkEnv, extV, pickV, LVS, OVS, LTS, TYS, PMS, pmT, OWS, ownT, GHS, ghT, DMS, dmT, Int.reduceToNat, Nat.reduceGT, ↓reduceIte, Nat.reduceAdd, Nat.reduceMul, Nat.reduceSub, Nat.reduceEqDiff, Nat.reduceLeDiff, Nat.reduceLT, Nat.reduceBEq, Int.reduceBEq, Int.reduceBNe, Int.reduceEq, Int.reduceLT, Int.reduceLE, Int.reduceGT, Int.reduceNeg, reduceCtorEq, wrap_in, bne, left_lt, left_eq, k_sums, k_needs, *]))
  all_goals (refine left_leaf' ?_; simp only [LPack.bulk, and_true]; omega)
theorem l_szPackS (cs : List LPack) (hl : cs.length ≤ 9223372036854775807) (hc : ∀ c ∈ cs, SzPack c) : ∀ (d i : Nat) (n : Int), cs.length - i = d → i ≤ cs.length → 0 ≤ n → n ≤ 1048576 →
    (0 ≤ n - (LPack.bulks (cs.drop i) : Int) → EV Try.prog pol (.loop 40 122 0 [.t (.list 6 (LPack.encs cs)), .t (.int .i64 n), .t (.int .i64 (i : Int))] []) = some (.loop (.exit 0) [.t (.int .i64 (n - (LPack.bulks (cs.drop i) : Int))), .bad] [])) ∧
    (n - (LPack.bulks (cs.drop i) : Int) < 0 → ∃ v, EV Try.prog pol (.loop 40 122 0 [.t (.list 6 (LPack.encs cs)), .t (.int .i64 n), .t (.int .i64 (i : Int))] []) = some (.loop .ret [v, .t (.int .i64 (-1))] []))
  | 0, i, n, hd, hi, h0, h1 => by
    have hi' : i = cs.length := by omega
    subst hi'
    have hb : LPack.bulks (cs.drop cs.length) = 0 := by simp [LPack.bulks]
    rw [hb]
    refine ⟨fun _ => ?_, fun h => by omega⟩
    refine loop_eq Try.func40 rfl rfl ?_
    have c : decide (((cs.length : Nat) : Int) < ((cs.length : Nat) : Int)) = false := by simp
    simp only [↓GO, ↓DRW, GA, ren, renB, footX, refs, cellsV, cst, cstAt, nilC, idxAddr, E.load, E.store, binO, isC, bin, ibin, sbin, una, isShift, okCell, packV, lenV, blt, fnV, asArg, snapV, snapS, snapP, snapC, snapX, flatV, flatT, openK, layBack, allT, allZ, mkS, srcOf0, unN, idxV, nilEq, give, tupV, mkEnv, extV, pickV, LVS, OVS, LTS, TYS, PMS, pmT, OWS, ownT, GHS, ghT, DMS, dmT, Int.reduceToNat, Nat.reduceGT, ↓reduceIte, Nat.reduceAdd, Nat.reduceMul, Nat.reduceSub, Nat.reduceEqDiff, Nat.reduceLeDiff, Nat.reduceLT, Nat.reduceBEq, Int.reduceBEq, Int.reduceBNe, Int.reduceEq, Int.reduceLT, Int.reduceLE, Int.reduceGT, Int.reduceNeg, reduceCtorEq, LPack.encs_len, c]
    simp
  | d + 1, i, n, hd, hi, h0, h1 => by
    have hlt : i < cs.length := by omega
    rw [LPack.bulks_drop cs i hlt]
    have c : decide ((i : Int) < ((cs.length : Nat) : Int)) = true := by simp; omega
    have hcall := hc _ (List.getElem_mem hlt) n h0 h1
    have hget := LPack.encs_get cs i hlt
    generalize hci : cs[i] = ci at hcall hget
    obtain ⟨name, version, source, sums, dev, needs⟩ := ci
    simp only [LPack.enc, List.map_cons, List.map_nil] at hcall hget
    generalize hbu : (LPack.mk name version source sums dev needs).bulk = bu at hcall
    have IH := l_szPackS cs hl hc d (i + 1) (n - (bu : Int)) (by omega) (by omega)
    have e1 : (i : Int) + 1 = ((i + 1 : Nat) : Int) := by omega
    by_cases hneg : n - (bu : Int) < 0
    · refine ⟨fun h => by omega, fun _ => ⟨.t (.int .i64 (-1)), ?_⟩⟩
      refine loop_eq Try.func40 rfl rfl ?_
      have hle : left n bu = -1 := if_pos hneg
      rw [hle] at hcall
      simp (disch := omega) only [↓GO, ↓DRW, GA, ren, renB, footX, refs, cellsV, cst, cstAt, nilC, idxAddr, E.load, E.store, binO, isC, bin, ibin, sbin, una, isShift, okCell, packV, lenV, blt, fnV, asArg, snapV, snapS, snapP, snapC, snapX, flatV, flatT, openK, layBack, allT, allZ, mkS, srcOf0, unN, idxV, nilEq, give, tupV, mkEnv, extV, pickV, LVS, OVS, LTS, TYS, PMS, pmT, OWS, ownT, GHS, ghT, DMS, dmT, Int.reduceToNat, Nat.reduceGT, ↓reduceIte, Nat.reduceAdd, Nat.reduceMul, Nat.reduceSub, Nat.reduceEqDiff, Nat.reduceLeDiff, Nat.reduceLT, Nat.reduceBEq, Int.reduceBEq, Int.reduceBNe, Int.reduceEq, Int.reduceLT, Int.reduceLE, Int.reduceGT, Int.reduceNeg, reduceCtorEq, LPack.encs_len, c, hget, wrap_in, hcall]
    · have hle : left n bu = n - (bu : Int) := if_neg hneg
      rw [hle] at hcall
      have c2 : decide (n - (bu : Int) < 0) = false := by simpa using hneg
      obtain ⟨I1, I2⟩ := IH (by omega) (by omega)
      refine ⟨fun h => ?_, fun h => ?_⟩
      · refine loop_eq Try.func40 rfl rfl ?_
        simp (disch := omega) only [↓GO, ↓DRW, GA, ren, renB, footX, refs, cellsV, cst, cstAt, nilC, idxAddr, E.load, E.store, binO, isC, bin, ibin, sbin, una, isShift, okCell, packV, lenV, blt, fnV, asArg, snapV, snapS, snapP, snapC, snapX, flatV, flatT, openK, layBack, allT, allZ, mkS, srcOf0, unN, idxV, nilEq, give, tupV, mkEnv, extV, pickV, LVS, OVS, LTS, TYS, PMS, pmT, OWS, ownT, GHS, ghT, DMS, dmT, Int.reduceToNat, Nat.reduceGT, ↓reduceIte, Nat.reduceAdd, Nat.reduceMul, Nat.reduceSub, Nat.reduceEqDiff, Nat.reduceLeDiff, Nat.reduceLT, Nat.reduceBEq, Int.reduceBEq, Int.reduceBNe, Int.reduceEq, Int.reduceLT, Int.reduceLE, Int.reduceGT, Int.reduceNeg, reduceCtorEq, LPack.encs_len, c, hget, wrap_in, hcall, c2, e1]
        rw [I1 (by omega), show n - (bu : Int) - (LPack.bulks (cs.drop (i + 1)) : Int) = n - ((bu + LPack.bulks (cs.drop (i + 1)) : Nat) : Int) by omega]
      · obtain ⟨v, hv⟩ := I2 (by omega)
        refine ⟨v, ?_⟩
        refine loop_eq Try.func40 rfl rfl ?_
        simp (disch := omega) only [↓GO, ↓DRW, GA, ren, renB, footX, refs, cellsV, cst, cstAt, nilC, idxAddr, E.load, E.store, binO, isC, bin, ibin, sbin, una, isShift, okCell, packV, lenV, blt, fnV, asArg, snapV, snapS, snapP, snapC, snapX, flatV, flatT, openK, layBack, allT, allZ, mkS, srcOf0, unN, idxV, nilEq, give, tupV, mkEnv, extV, pickV, LVS, OVS, LTS, TYS, PMS, pmT, OWS, ownT, GHS, ghT, DMS, dmT, Int.reduceToNat, Nat.reduceGT, ↓reduceIte, Nat.reduceAdd, Nat.reduceMul, Nat.reduceSub, Nat.reduceEqDiff, Nat.reduceLeDiff, Nat.reduceLT, Nat.reduceBEq, Int.reduceBEq, Int.reduceBNe, Int.reduceEq, Int.reduceLT, Int.reduceLE, Int.reduceGT, Int.reduceNeg, reduceCtorEq, LPack.encs_len, c, hget, wrap_in, hcall, c2, e1]
        exact hv
theorem c_szPackS (cs : List LPack) (hl : cs.length ≤ 9223372036854775807) (hc : ∀ c ∈ cs, SzPack c) (n : Int) (h0 : 0 ≤ n) (h1 : n ≤ 1048576) :
    callPure (EV Try.prog pol) 40 [.t (.list 6 (LPack.encs cs)), .t (.int .i64 n)] = some (.t (.int .i64 (left n (cs.length + LPack.bulks cs)))) := by
  apply eq_call
  refine call_eq rfl Try.func40 rfl (by kernel_rfl) ?_
  unfold Try.f40
  by_cases hneg : n - (cs.length : Int) < 0
  · have c2 : decide (n - (cs.length : Int) < 0) = true := by simpa using hneg
    simp (disch := omega) only [↓GO, ↓DRW, GA, ren, renB, footX, refs, cellsV, cst, cstAt, nilC, idxAddr, E.load, E.store, binO, isC, bin, ibin, sbin, una, isShift, okCell, packV, lenV, blt, fnV, asArg, snapV, snapS, snapP, snapC, snapX, flatV, flatT, openK, layBack, allT, allZ, mkS, srcOf0, unN, idxV, nilEq, give, tupV, mkEnv, extV, pickV, LVS, OVS, LTS, TYS, PMS, pmT, OWS, ownT, GHS, ghT, DMS, dmT, Int.reduceToNat, Nat.reduceGT, ↓reduceIte, Nat.reduceAdd, Nat.reduceMul, Nat.reduceSub, Nat.reduceEqDiff, Nat.reduceLeDiff, Nat.reduceLT, Nat.reduceBEq, Int.reduceBEq, Int.reduceBNe, Int.reduceEq, Int.reduceLT, Int.reduceLE, Int.reduceGT, Int.reduceNeg, reduceCtorEq, LPack.encs_len, wrap_in, c2]
    rw [left, if_pos (by omega)]
  · have c2 : decide (n - (cs.length : Int) < 0) = false := by simpa using hneg
    obtain ⟨I1, I2⟩ := l_szPackS cs hl hc cs.length 0 (n - (cs.length : Int)) (by omega) (by omega) (by omega) (by omega)
    simp only [List.drop_zero, Int.natCast_zero] at I1 I2
    by_cases hn2 : n - (cs.length : Int) - (LPack.bulks cs : Int) < 0
    · obtain ⟨v, hv⟩ := I2 hn2
      simp (disch := omega) only [↓GO, ↓DRW, GA, ren, renB, footX, refs, cellsV, cst, cstAt, nilC, idxAddr, E.load, E.store, binO, isC, bin, ibin, sbin, una, isShift, okCell, packV, lenV, blt, fnV, asArg, snapV, snapS, snapP, snapC, snapX, flatV, flatT, openK, layBack, allT, allZ, mkS, srcOf0, unN, idxV, nilEq, give, tupV, mkEnv, extV, pickV, LVS, OVS, LTS, TYS, PMS, pmT, OWS, ownT, GHS, ghT, DMS, dmT, Int.reduceToNat, Nat.reduceGT, ↓reduceIte, Nat.reduceAdd, Nat.reduceMul, Nat.reduceSub, Nat.reduceEqDiff, Nat.reduceLeDiff, Nat.reduceLT, Nat.reduceBEq, Int.reduceBEq, Int.reduceBNe, Int.reduceEq, Int.reduceLT, Int.reduceLE, Int.reduceGT, Int.reduceNeg, reduceCtorEq, LPack.encs_len, wrap_in, c2, hv]
      rw [left, if_pos (by omega)]
    · simp (disch := omega) only [↓GO, ↓DRW, GA, ren, renB, footX, refs, cellsV, cst, cstAt, nilC, idxAddr, E.load, E.store, binO, isC, bin, ibin, sbin, una, isShift, okCell, packV, lenV, blt, fnV, asArg, snapV, snapS, snapP, snapC, snapX, flatV, flatT, openK, layBack, allT, allZ, mkS, srcOf0, unN, idxV, nilEq, give, tupV, mkEnv, extV, pickV, LVS, OVS, LTS, TYS, PMS, pmT, OWS, ownT, GHS, ghT, DMS, dmT, Int.reduceToNat, Nat.reduceGT, ↓reduceIte, Nat.reduceAdd, Nat.reduceMul, Nat.reduceSub, Nat.reduceEqDiff, Nat.reduceLeDiff, Nat.reduceLT, Nat.reduceBEq, Int.reduceBEq, Int.reduceBNe, Int.reduceEq, Int.reduceLT, Int.reduceLE, Int.reduceGT, Int.reduceNeg, reduceCtorEq, LPack.encs_len, wrap_in, c2, I1 (by omega)]
      rw [left, if_neg (by omega), show n - (cs.length : Int) - (LPack.bulks cs : Int) = n - ((cs.length + LPack.bulks cs : Nat) : Int) by omega]
def EqPack (x : LPack) : Prop := callPure (EV Try.prog pol) 52 [.agg (x.enc.map .t), .agg (x.enc.map .t)] = some (.t (.bool true))
theorem c_eqPack (x : LPack) (ho : x.bulk ≤ 4194304) : EqPack x := by
  obtain ⟨name, version, source, sums, dev, needs⟩ := x
  simp only [LPack.bulk] at ho
  simp only [EqPack, LPack.enc, List.map_cons, List.map_nil]
  apply eq_call
  refine call_eq rfl Try.func52 rfl (by kernel_rfl) ?_
  unfold Try.f52
  simp only [↓GO, ↓DRW, GA, ren, renB, footX, refs, cellsV, cst, cstAt, nilC, idxAddr, E.load, E.store, binO, isC, bin, ibin, sbin, una, isShift, okCell, packV, lenV, blt, fnV, asArg, snapV, snapS, snapP, snapC, snapX, flatV, flatT, openK, layBack, allT, allZ, mkS, srcOf0, unN, idxV, nilEq, give, tupV, mkEnv, extV, pickV, LVS, OVS, LTS, TYS, PMS, pmT, OWS, ownT, GHS, ghT, DMS, dmT, Int.reduceToNat, Nat.reduceGT, ↓reduceIte, Nat.reduceAdd, Nat.reduceMul, Nat.reduceSub, Nat.reduceEqDiff, Nat.reduceLeDiff, Nat.reduceLT, Nat.reduceBEq, Int.reduceBEq, Int.reduceBNe, Int.reduceEq, Int.reduceLT, Int.reduceLE, Int.reduceGT, Int.reduceNeg, reduceCtorEq, bne_self_eq_false, c_eqSumS sums (by omega) (fun c hc => c_eqSum c (by have := LSum.bulks_mem hc; omega)), c_eqStringS needs (by omega)]
theorem l_eqPackS (cs : List LPack) (hl : cs.length ≤ 4194304) (hc : ∀ c ∈ cs, EqPack c) : ∀ (d i : Nat), cs.length - i = d → i ≤ cs.length →
    EV Try.prog pol (.loop 44 58 0 [.t (.list 6 (LPack.encs cs)), .t (.list 6 (LPack.encs cs)), .t (.int .i64 (i : Int))] []) = some (.loop (.exit 0) [.bad] [])
  | 0, i, hd, hi => by
    have hi' : i = cs.length := by omega
    subst hi'
    refine loop_eq Try.func44 rfl rfl ?_
    have c : decide (((cs.length : Nat) : Int) < ((cs.length : Nat) : Int)) = false := by simp
    simp only [↓GO, ↓DRW, GA, ren, renB, footX, refs, cellsV, cst, cstAt, nilC, idxAddr, E.load, E.store, binO, isC, bin, ibin, sbin, una, isShift, okCell, packV, lenV, blt, fnV, asArg, snapV, snapS, snapP, snapC, snapX, flatV, flatT, openK, layBack, allT, allZ, mkS, srcOf0, unN, idxV, nilEq, give, tupV, mkEnv, extV, pickV, LVS, OVS, LTS, TYS, PMS, pmT, OWS, ownT, GHS, ghT, DMS, dmT, Int.reduceToNat, Nat.reduceGT, ↓reduceIte, Nat.reduceAdd, Nat.reduceMul, Nat.reduceSub, Nat.reduceEqDiff, Nat.reduceLeDiff, Nat.reduceLT, Nat.reduceBEq, Int.reduceBEq, Int.reduceBNe, Int.reduceEq, Int.reduceLT, Int.reduceLE, Int.reduceGT, Int.reduceNeg, reduceCtorEq, LPack.encs_len, c]
  | d + 1, i, hd, hi => by
    have hlt : i < cs.length := by omega
    have c : decide ((i : Int) < ((cs.length : Nat) : Int)) = true := by simp; omega
    have IH := l_eqPackS cs hl hc d (i + 1) (by omega) (by omega)
    have e1 : (i : Int) + 1 = ((i + 1 : Nat) : Int) := by omega
    have hcall := hc _ (List.getElem_mem hlt)
    have hget := LPack.encs_get cs i hlt
    generalize hci : cs[i] = ci at hcall hget
    obtain ⟨name, version, source, sums, dev, needs⟩ := ci
    simp only [EqPack, LPack.enc, List.map_cons, List.map_nil] at hcall hget
    refine loop_eq Try.func44 rfl rfl ?_
    simp (disch := omega) only [↓GO, ↓DRW, GA, ren, renB, footX, refs, cellsV, cst, cstAt, nilC, idxAddr, E.load, E.store, binO, isC, bin, ibin, sbin, una, isShift, okCell, packV, lenV, blt, fnV, asArg, snapV, snapS, snapP, snapC, snapX, flatV, flatT, openK, layBack, allT, allZ, mkS, srcOf0, unN, idxV, nilEq, give, tupV, mkEnv, extV, pickV, LVS, OVS, LTS, TYS, PMS, pmT, OWS, ownT, GHS, ghT, DMS, dmT, Int.reduceToNat, Nat.reduceGT, ↓reduceIte, Nat.reduceAdd, Nat.reduceMul, Nat.reduceSub, Nat.reduceEqDiff, Nat.reduceLeDiff, Nat.reduceLT, Nat.reduceBEq, Int.reduceBEq, Int.reduceBNe, Int.reduceEq, Int.reduceLT, Int.reduceLE, Int.reduceGT, Int.reduceNeg, reduceCtorEq, LPack.encs_len, c, hget, wrap_in, e1, hcall]
    exact IH
theorem c_eqPackS (cs : List LPack) (hl : cs.length ≤ 4194304) (hc : ∀ c ∈ cs, EqPack c) : callPure (EV Try.prog pol) 44 [.t (.list 6 (LPack.encs cs)), .t (.list 6 (LPack.encs cs))] = some (.t (.bool true)) := by
  apply eq_call
  refine call_eq rfl Try.func44 rfl (by kernel_rfl) ?_
  unfold Try.f44
  have IH := l_eqPackS cs hl hc cs.length 0 (by omega) (by omega)
  simp only [Int.natCast_zero] at IH
  simp only [↓GO, ↓DRW, GA, ren, renB, footX, refs, cellsV, cst, cstAt, nilC, idxAddr, E.load, E.store, binO, isC, bin, ibin, sbin, una, isShift, okCell, packV, lenV, blt, fnV, asArg, snapV, snapS, snapP, snapC, snapX, flatV, flatT, openK, layBack, allT, allZ, mkS, srcOf0, unN, idxV, nilEq, give, tupV, mkEnv, extV, pickV, LVS, OVS, LTS, TYS, PMS, pmT, OWS, ownT, GHS, ghT, DMS, dmT, Int.reduceToNat, Nat.reduceGT, ↓reduceIte, Nat.reduceAdd, Nat.reduceMul, Nat.reduceSub, Nat.reduceEqDiff, Nat.reduceLeDiff, Nat.reduceLT, Nat.reduceBEq, Int.reduceBEq, Int.reduceBNe, Int.reduceEq, Int.reduceLT, Int.reduceLE, Int.reduceGT, Int.reduceNeg, reduceCtorEq, LPack.encs_len, IH, bne_self_eq_false]
structure LGraph where
  top : List (List UInt8)
  packs : List LPack
def LGraph.enc (x : LGraph) : List T := [.list 1 (strs x.top), .list 6 (LPack.encs x.packs)]
def LGraph.encs (l : List LGraph) : List (List T) := l.map LGraph.enc
def LGraph.bulk (x : LGraph) : Nat := (x.top.length + bulkS x.top) + (x.packs.length + LPack.bulks x.packs)
def LGraph.bulks : List LGraph → Nat
  | [] => 0
  | c :: cs => LGraph.bulk c + LGraph.bulks cs
def LGraph.ok (x : LGraph) : Prop := x.top.length ≤ 9223372036854775807 ∧ (∀ s ∈ x.top, s.length ≤ 9223372036854775807) ∧ x.packs.length ≤ 9223372036854775807 ∧ (∀ y ∈ x.packs, y.ok)
theorem LGraph.enc_len (x : LGraph) : x.enc.length = 2 := rfl
theorem LGraph.enc_take (x : LGraph) : x.enc.take 2 = x.enc := rfl
theorem LGraph.encs_len (cs : List LGraph) : (LGraph.encs cs).length = cs.length := by simp [LGraph.encs]
theorem LGraph.encs_get (cs : List LGraph) (i : Nat) (h : i < cs.length) : (LGraph.encs cs)[i]? = some cs[i].enc := by simp [LGraph.encs, h]
theorem LGraph.bulks_drop (cs : List LGraph) (i : Nat) (h : i < cs.length) : LGraph.bulks (cs.drop i) = cs[i].bulk + LGraph.bulks (cs.drop (i + 1)) := by
  rw [List.drop_eq_getElem_cons h]; rfl
theorem LGraph.bulks_mem : ∀ {cs : List LGraph} {c : LGraph}, c ∈ cs → c.bulk ≤ LGraph.bulks cs
  | c' :: cs, c, h => by
    simp only [LGraph.bulks]
    rcases List.mem_cons.1 h with rfl | h
    · omega
    · have := LGraph.bulks_mem h; omega
def SzGraph (x : LGraph) : Prop := ∀ n : Int, 0 ≤ n → n ≤ 1048576 → callPure (EV Try.prog pol) 26 [.agg (x.enc.map .t), .t (.int .i64 n)] = some (.t (.int .i64 (left n x.bulk)))
theorem c_szGraph (x : LGraph) (ho : x.ok) : SzGraph x := by
  obtain ⟨top, packs⟩ := x
  intro n h0 h1
  simp only [LGraph.ok] at ho
  simp only [LGraph.enc, List.map_cons, List.map_nil]
  apply eq_call
  refine call_eq rfl Try.func26 rfl (by kernel_rfl) ?_
  unfold Try.f26
  have k_top := c_szStringS top (by first | exact ho.1 | simp_all) (by first | exact ho.2 | simp_all)
  have k_packs := c_szPackS packs (by first | exact ho.1 | simp_all) (fun c hc => c_szPack c (by simp_all))
  repeat' (first | (((first | with_reducible refine cK_any (fun hA => ?_) (fun hA => ?_) | with_reducible refine gW_any (fun hA => ?_) (fun hA => ?_)) <;> (try simp only [bne, Bool.not_eq_true', Bool.not_eq_false'] at hA) <;> (first | (have hP := Int.le_of_eq (eq_of_beq (α := Int) hA); have hQ := Int.le_of_eq (eq_of_beq (α := Int) hA).symm) | have hP := of_decide_eq_true hA | have hP := of_decide_eq_false hA | skip)) <;> (simp (disch := ((try simp only [List.length_cons, List.length_append, List.length_nil, List.length_map]); omega)) only [↓GO, ↓DRW, GA, ren, renB, footX, refs, cellsV, cst, cstAt, nilC, idxAddr, E.load, E.store, binO, isC, bin, ibin, sbin, una, isShift, okCell, packV, lenV, blt, fnV, asArg, snapV, snapS, snapP, snapC, snapX, flatV, flatT, openK, layBack, allT, allZ, mkS, srcOf0, unN, idxV, nilEq, give, tupV, mkEnv, extV, pickV, LVS, OVS, LTS, TYS, PMS, pmT, OWS, ownT, GHS, ghT, DMS, dmT, Int.reduceToNat, Nat.reduceGT, ↓reduceIte, Nat.reduceAdd, Nat.reduceMul, Nat.reduceSub, Nat.reduceEqDiff, Nat.reduceLeDiff, Nat.reduceLT, Nat.reduceBEq, Int.reduceBEq, Int.reduceBNe, Int.reduceEq, Int.reduceLT, Int.reduceLE, Int.reduceGT, Int.reduceNeg, reduceCtorEq, wrap_in, bne, left_lt, left_eq, k_top, k_packs, *])) | (simp (disch := ((try simp only [List.length_cons, List.length_append, List.length_nil, List.length_map]); omega)) only [↓GO, ↓DRW, GA, ren, renB, footX, refs, cellsV, cst, cstAt, nilC, idxAddr, E.load, E.store, binO, isC, bin, ibin, sbin, una, isShift, okCell, packV, lenV, blt, fnV, asArg, snapV, snapS, snapP, snapC, snapX, flatV, flatT, openK, layBack, allT, allZ, mkS, srcOf0, unN, idxV, nilEq, give, tupV, mkEnv, extV, pickV, LVS, OVS, LTS, TYS, PMS, pmT, OWS, ownT, GHS, ghT, DMS, dmT, Int.reduceToNat, Nat.reduceGT, ↓reduceIte, Nat.reduceAdd, Nat.reduceMul, Nat.reduceSub, Nat.reduceEqDiff, Nat.reduceLeDiff, Nat.reduceLT, Nat.reduceBEq, Int.reduceBEq, Int.reduceBNe, Int.reduceEq, Int.reduceLT, Int.reduceLE, Int.reduceGT, Int.reduceNeg, reduceCtorEq, wrap_in, bne, left_lt, left_eq, k_top, k_packs, *]))
  all_goals (refine left_leaf' ?_; simp only [LGraph.bulk, and_true]; omega)
def EqGraph (x : LGraph) : Prop := callPure (EV Try.prog pol) 30 [.agg (x.enc.map .t), .agg (x.enc.map .t)] = some (.t (.bool true))
theorem c_eqGraph (x : LGraph) (ho : x.bulk ≤ 4194304) : EqGraph x := by
  obtain ⟨top, packs⟩ := x
  simp only [LGraph.bulk] at ho
  simp only [EqGraph, LGraph.enc, List.map_cons, List.map_nil]
  apply eq_call
  refine call_eq rfl Try.func30 rfl (by kernel_rfl) ?_
  unfold Try.f30
  simp only [↓GO, ↓DRW, GA, ren, renB, footX, refs, cellsV, cst, cstAt, nilC, idxAddr, E.load, E.store, binO, isC, bin, ibin, sbin, una, isShift, okCell, packV, lenV, blt, fnV, asArg, snapV, snapS, snapP, snapC, snapX, flatV, flatT, openK, layBack, allT, allZ, mkS, srcOf0, unN, idxV, nilEq, give, tupV, mkEnv, extV, pickV, LVS, OVS, LTS, TYS, PMS, pmT, OWS, ownT, GHS, ghT, DMS, dmT, Int.reduceToNat, Nat.reduceGT, ↓reduceIte, Nat.reduceAdd, Nat.reduceMul, Nat.reduceSub, Nat.reduceEqDiff, Nat.reduceLeDiff, Nat.reduceLT, Nat.reduceBEq, Int.reduceBEq, Int.reduceBNe, Int.reduceEq, Int.reduceLT, Int.reduceLE, Int.reduceGT, Int.reduceNeg, reduceCtorEq, bne_self_eq_false, c_eqStringS top (by omega), c_eqPackS packs (by omega) (fun c hc => c_eqPack c (by have := LPack.bulks_mem hc; omega))]
end Go.Proofs.Ytcphjdfmjhijkaa
/- The laws' own functions over trees: sizes, comparisons. Conditions: those of each lemma. -/
namespace Go.Proofs.Ytcphjdfmjhijkaa
open E
set_option linter.unusedSimpArgs false
set_option linter.unusedVariables false
set_option maxRecDepth 100000

/-- a tree's size is counted right -/
def SzT (t : Tr) : Prop := ∀ n : Int, 0 ≤ n → n ≤ 1048576 → callPure (EV Try.prog pol) 20 [.agg (t.enc.map .t), .t (.int .i64 n)] = some (.t (.int .i64 (left n t.bulk)))
theorem l_szTreeS (cs : List Tr) (hl : cs.length ≤ 9223372036854775807) (hc : ∀ c ∈ cs, SzT c) : ∀ (d i : Nat) (n : Int), cs.length - i = d → i ≤ cs.length → 0 ≤ n → n ≤ 1048576 →
    (0 ≤ n - (Tr.bulks (cs.drop i) : Int) → EV Try.prog pol (.loop 8 122 0 [.t (.list 5 (Tr.encs cs)), .t (.int .i64 n), .t (.int .i64 (i : Int))] []) = some (.loop (.exit 0) [.t (.int .i64 (n - (Tr.bulks (cs.drop i) : Int))), .bad] [])) ∧
    (n - (Tr.bulks (cs.drop i) : Int) < 0 → ∃ v, EV Try.prog pol (.loop 8 122 0 [.t (.list 5 (Tr.encs cs)), .t (.int .i64 n), .t (.int .i64 (i : Int))] []) = some (.loop .ret [v, .t (.int .i64 (-1))] []))
  | 0, i, n, hd, hi, h0, h1 => by
    have hi' : i = cs.length := by omega
    subst hi'
    have hb : Tr.bulks (cs.drop cs.length) = 0 := by simp [Tr.bulks]
    rw [hb]
    refine ⟨fun _ => ?_, fun h => by omega⟩
    refine loop_eq Try.func8 rfl rfl ?_
    have c : decide (((cs.length : Nat) : Int) < ((cs.length : Nat) : Int)) = false := by simp
    simp only [↓GO, ↓DRW, GA, ren, renB, footX, refs, cellsV, cst, cstAt, nilC, idxAddr, E.load, E.store, binO, isC, bin, ibin, sbin, una, isShift, okCell, packV, lenV, blt, fnV, asArg, snapV, snapS, snapP, snapC, snapX, flatV, flatT, openK, layBack, allT, allZ, mkS, srcOf0, unN, idxV, nilEq, give, tupV, mkEnv, extV, pickV, LVS, OVS, LTS, TYS, PMS, pmT, OWS, ownT, GHS, ghT, DMS, dmT, Int.reduceToNat, Nat.reduceGT, ↓reduceIte, Nat.reduceAdd, Nat.reduceMul, Nat.reduceSub, Nat.reduceEqDiff, Nat.reduceLeDiff, Nat.reduceLT, Nat.reduceBEq, Int.reduceBEq, Int.reduceBNe, Int.reduceEq, Int.reduceLT, Int.reduceLE, Int.reduceGT, Int.reduceNeg, reduceCtorEq, Tr.encs_len, c]
    simp
  | d + 1, i, n, hd, hi, h0, h1 => by
    have hlt : i < cs.length := by omega
    rw [Tr.bulks_drop cs i hlt]
    have c : decide ((i : Int) < ((cs.length : Nat) : Int)) = true := by simp; omega
    have hcall := hc _ (List.getElem_mem hlt) n h0 h1
    have hget := Tr.encs_get cs i hlt
    generalize hci : cs[i] = ci at hcall hget
    obtain ⟨k, n', s, ks, cs'⟩ := ci
    simp only [Tr.enc, List.map_cons, List.map_nil] at hcall hget
    generalize hbu : (Tr.mk k n' s ks cs').bulk = bu at hcall
    have IH := l_szTreeS cs hl hc d (i + 1) (n - (bu : Int)) (by omega) (by omega)
    have e1 : (i : Int) + 1 = ((i + 1 : Nat) : Int) := by omega
    by_cases hneg : n - (bu : Int) < 0
    · refine ⟨fun h => by omega, fun _ => ⟨.t (.int .i64 (-1)), ?_⟩⟩
      refine loop_eq Try.func8 rfl rfl ?_
      have hle : left n bu = -1 := if_pos hneg
      rw [hle] at hcall
      simp (disch := omega) only [↓GO, ↓DRW, GA, ren, renB, footX, refs, cellsV, cst, cstAt, nilC, idxAddr, E.load, E.store, binO, isC, bin, ibin, sbin, una, isShift, okCell, packV, lenV, blt, fnV, asArg, snapV, snapS, snapP, snapC, snapX, flatV, flatT, openK, layBack, allT, allZ, mkS, srcOf0, unN, idxV, nilEq, give, tupV, mkEnv, extV, pickV, LVS, OVS, LTS, TYS, PMS, pmT, OWS, ownT, GHS, ghT, DMS, dmT, Int.reduceToNat, Nat.reduceGT, ↓reduceIte, Nat.reduceAdd, Nat.reduceMul, Nat.reduceSub, Nat.reduceEqDiff, Nat.reduceLeDiff, Nat.reduceLT, Nat.reduceBEq, Int.reduceBEq, Int.reduceBNe, Int.reduceEq, Int.reduceLT, Int.reduceLE, Int.reduceGT, Int.reduceNeg, reduceCtorEq, Tr.encs_len, c, hget, wrap_in, hcall]
    · have hle : left n bu = n - (bu : Int) := if_neg hneg
      rw [hle] at hcall
      have c2 : decide (n - (bu : Int) < 0) = false := by simpa using hneg
      obtain ⟨I1, I2⟩ := IH (by omega) (by omega)
      refine ⟨fun h => ?_, fun h => ?_⟩
      · refine loop_eq Try.func8 rfl rfl ?_
        simp (disch := omega) only [↓GO, ↓DRW, GA, ren, renB, footX, refs, cellsV, cst, cstAt, nilC, idxAddr, E.load, E.store, binO, isC, bin, ibin, sbin, una, isShift, okCell, packV, lenV, blt, fnV, asArg, snapV, snapS, snapP, snapC, snapX, flatV, flatT, openK, layBack, allT, allZ, mkS, srcOf0, unN, idxV, nilEq, give, tupV, mkEnv, extV, pickV, LVS, OVS, LTS, TYS, PMS, pmT, OWS, ownT, GHS, ghT, DMS, dmT, Int.reduceToNat, Nat.reduceGT, ↓reduceIte, Nat.reduceAdd, Nat.reduceMul, Nat.reduceSub, Nat.reduceEqDiff, Nat.reduceLeDiff, Nat.reduceLT, Nat.reduceBEq, Int.reduceBEq, Int.reduceBNe, Int.reduceEq, Int.reduceLT, Int.reduceLE, Int.reduceGT, Int.reduceNeg, reduceCtorEq, Tr.encs_len, c, hget, wrap_in, hcall, c2, e1]
        rw [I1 (by omega), show n - (bu : Int) - (Tr.bulks (cs.drop (i + 1)) : Int) = n - ((bu + Tr.bulks (cs.drop (i + 1)) : Nat) : Int) by omega]
      · obtain ⟨v, hv⟩ := I2 (by omega)
        refine ⟨v, ?_⟩
        refine loop_eq Try.func8 rfl rfl ?_
        simp (disch := omega) only [↓GO, ↓DRW, GA, ren, renB, footX, refs, cellsV, cst, cstAt, nilC, idxAddr, E.load, E.store, binO, isC, bin, ibin, sbin, una, isShift, okCell, packV, lenV, blt, fnV, asArg, snapV, snapS, snapP, snapC, snapX, flatV, flatT, openK, layBack, allT, allZ, mkS, srcOf0, unN, idxV, nilEq, give, tupV, mkEnv, extV, pickV, LVS, OVS, LTS, TYS, PMS, pmT, OWS, ownT, GHS, ghT, DMS, dmT, Int.reduceToNat, Nat.reduceGT, ↓reduceIte, Nat.reduceAdd, Nat.reduceMul, Nat.reduceSub, Nat.reduceEqDiff, Nat.reduceLeDiff, Nat.reduceLT, Nat.reduceBEq, Int.reduceBEq, Int.reduceBNe, Int.reduceEq, Int.reduceLT, Int.reduceLE, Int.reduceGT, Int.reduceNeg, reduceCtorEq, Tr.encs_len, c, hget, wrap_in, hcall, c2, e1]
        exact hv
theorem c_szTreeS (cs : List Tr) (hl : cs.length ≤ 9223372036854775807) (hc : ∀ c ∈ cs, SzT c) (n : Int) (h0 : 0 ≤ n) (h1 : n ≤ 1048576) :
    callPure (EV Try.prog pol) 8 [.t (.list 5 (Tr.encs cs)), .t (.int .i64 n)] = some (.t (.int .i64 (left n (cs.length + Tr.bulks cs)))) := by
  apply eq_call
  refine call_eq rfl Try.func8 rfl (by kernel_rfl) ?_
  unfold Try.f8
  by_cases hneg : n - (cs.length : Int) < 0
  · have c2 : decide (n - (cs.length : Int) < 0) = true := by simpa using hneg
    simp (disch := omega) only [↓GO, ↓DRW, GA, ren, renB, footX, refs, cellsV, cst, cstAt, nilC, idxAddr, E.load, E.store, binO, isC, bin, ibin, sbin, una, isShift, okCell, packV, lenV, blt, fnV, asArg, snapV, snapS, snapP, snapC, snapX, flatV, flatT, openK, layBack, allT, allZ, mkS, srcOf0, unN, idxV, nilEq, give, tupV, mkEnv, extV, pickV, LVS, OVS, LTS, TYS, PMS, pmT, OWS, ownT, GHS, ghT, DMS, dmT, Int.reduceToNat, Nat.reduceGT, ↓reduceIte, Nat.reduceAdd, Nat.reduceMul, Nat.reduceSub, Nat.reduceEqDiff, Nat.reduceLeDiff, Nat.reduceLT, Nat.reduceBEq, Int.reduceBEq, Int.reduceBNe, Int.reduceEq, Int.reduceLT, Int.reduceLE, Int.reduceGT, Int.reduceNeg, reduceCtorEq, Tr.encs_len, wrap_in, c2]
    rw [left, if_pos (by omega)]
  · have c2 : decide (n - (cs.length : Int) < 0) = false := by simpa using hneg
    obtain ⟨I1, I2⟩ := l_szTreeS cs hl hc cs.length 0 (n - (cs.length : Int)) (by omega) (by omega) (by omega) (by omega)
    simp only [List.drop_zero, Int.natCast_zero] at I1 I2
    by_cases hn2 : n - (cs.length : Int) - (Tr.bulks cs : Int) < 0
    · obtain ⟨v, hv⟩ := I2 hn2
      simp (disch := omega) only [↓GO, ↓DRW, GA, ren, renB, footX, refs, cellsV, cst, cstAt, nilC, idxAddr, E.load, E.store, binO, isC, bin, ibin, sbin, una, isShift, okCell, packV, lenV, blt, fnV, asArg, snapV, snapS, snapP, snapC, snapX, flatV, flatT, openK, layBack, allT, allZ, mkS, srcOf0, unN, idxV, nilEq, give, tupV, mkEnv, extV, pickV, LVS, OVS, LTS, TYS, PMS, pmT, OWS, ownT, GHS, ghT, DMS, dmT, Int.reduceToNat, Nat.reduceGT, ↓reduceIte, Nat.reduceAdd, Nat.reduceMul, Nat.reduceSub, Nat.reduceEqDiff, Nat.reduceLeDiff, Nat.reduceLT, Nat.reduceBEq, Int.reduceBEq, Int.reduceBNe, Int.reduceEq, Int.reduceLT, Int.reduceLE, Int.reduceGT, Int.reduceNeg, reduceCtorEq, Tr.encs_len, wrap_in, c2, hv]
      rw [left, if_pos (by omega)]
    · simp (disch := omega) only [↓GO, ↓DRW, GA, ren, renB, footX, refs, cellsV, cst, cstAt, nilC, idxAddr, E.load, E.store, binO, isC, bin, ibin, sbin, una, isShift, okCell, packV, lenV, blt, fnV, asArg, snapV, snapS, snapP, snapC, snapX, flatV, flatT, openK, layBack, allT, allZ, mkS, srcOf0, unN, idxV, nilEq, give, tupV, mkEnv, extV, pickV, LVS, OVS, LTS, TYS, PMS, pmT, OWS, ownT, GHS, ghT, DMS, dmT, Int.reduceToNat, Nat.reduceGT, ↓reduceIte, Nat.reduceAdd, Nat.reduceMul, Nat.reduceSub, Nat.reduceEqDiff, Nat.reduceLeDiff, Nat.reduceLT, Nat.reduceBEq, Int.reduceBEq, Int.reduceBNe, Int.reduceEq, Int.reduceLT, Int.reduceLE, Int.reduceGT, Int.reduceNeg, reduceCtorEq, Tr.encs_len, wrap_in, c2, I1 (by omega)]
      rw [left, if_neg (by omega), show n - (cs.length : Int) - (Tr.bulks cs : Int) = n - ((cs.length + Tr.bulks cs : Nat) : Int) by omega]
theorem c_szTree : ∀ (N : Nat) (t : Tr), t.nd ≤ N → t.ok → SzT t
  | 0, .mk k n' s ks cs, h, _ => by simp [Tr.nd] at h
  | N + 1, .mk k n' s ks cs, h, ho => by
    simp only [Tr.nd] at h
    simp only [Tr.ok] at ho
    obtain ⟨o1, o2, o3, o4, o5⟩ := ho
    have hc : ∀ c ∈ cs, SzT c := fun c hc => c_szTree N c (by have := Tr.nds_mem hc; omega) (Tr.oks_mem o5 hc)
    intro n h0 h1
    simp only [Tr.enc, List.map_cons, List.map_nil]
    apply eq_call
    refine call_eq rfl Try.func20 rfl (by kernel_rfl) ?_
    unfold Try.f20
    by_cases n1 : n - (s.length : Int) < 0
    · have c1 : decide (n - (s.length : Int) < 0) = true := by simpa using n1
      simp (disch := omega) only [↓GO, ↓DRW, GA, ren, renB, footX, refs, cellsV, cst, cstAt, nilC, idxAddr, E.load, E.store, binO, isC, bin, ibin, sbin, una, isShift, okCell, packV, lenV, blt, fnV, asArg, snapV, snapS, snapP, snapC, snapX, flatV, flatT, openK, layBack, allT, allZ, mkS, srcOf0, unN, idxV, nilEq, give, tupV, mkEnv, extV, pickV, LVS, OVS, LTS, TYS, PMS, pmT, OWS, ownT, GHS, ghT, DMS, dmT, Int.reduceToNat, Nat.reduceGT, ↓reduceIte, Nat.reduceAdd, Nat.reduceMul, Nat.reduceSub, Nat.reduceEqDiff, Nat.reduceLeDiff, Nat.reduceLT, Nat.reduceBEq, Int.reduceBEq, Int.reduceBNe, Int.reduceEq, Int.reduceLT, Int.reduceLE, Int.reduceGT, Int.reduceNeg, reduceCtorEq, wrap_in, c1]
      rw [left, if_pos (by simp only [Tr.bulk]; omega)]
    · have c1 : decide (n - (s.length : Int) < 0) = false := by simpa using n1
      have h18 := c_szStringS ks o2 o3 (n - (s.length : Int)) (by omega) (by omega)
      by_cases n2 : n - (s.length : Int) - (ks.length : Int) - (bulkS ks : Int) < 0
      · rw [left, if_pos (by omega)] at h18
        simp (disch := omega) only [↓GO, ↓DRW, GA, ren, renB, footX, refs, cellsV, cst, cstAt, nilC, idxAddr, E.load, E.store, binO, isC, bin, ibin, sbin, una, isShift, okCell, packV, lenV, blt, fnV, asArg, snapV, snapS, snapP, snapC, snapX, flatV, flatT, openK, layBack, allT, allZ, mkS, srcOf0, unN, idxV, nilEq, give, tupV, mkEnv, extV, pickV, LVS, OVS, LTS, TYS, PMS, pmT, OWS, ownT, GHS, ghT, DMS, dmT, Int.reduceToNat, Nat.reduceGT, ↓reduceIte, Nat.reduceAdd, Nat.reduceMul, Nat.reduceSub, Nat.reduceEqDiff, Nat.reduceLeDiff, Nat.reduceLT, Nat.reduceBEq, Int.reduceBEq, Int.reduceBNe, Int.reduceEq, Int.reduceLT, Int.reduceLE, Int.reduceGT, Int.reduceNeg, reduceCtorEq, wrap_in, c1, h18]
        rw [left, if_pos (by simp only [Tr.bulk]; omega)]
      · rw [left, if_neg (by omega), show n - (s.length : Int) - ((ks.length + bulkS ks : Nat) : Int) = n - (s.length : Int) - (ks.length : Int) - (bulkS ks : Int) by omega] at h18
        have c2 : decide (n - (s.length : Int) - (ks.length : Int) - (bulkS ks : Int) < 0) = false := by simpa using n2
        have h19 := c_szTreeS cs o4 hc (n - (s.length : Int) - (ks.length : Int) - (bulkS ks : Int)) (by omega) (by omega)
        by_cases n3 : n - (s.length : Int) - (ks.length : Int) - (bulkS ks : Int) - ((cs.length + Tr.bulks cs : Nat) : Int) < 0
        · rw [left, if_pos n3] at h19
          simp (disch := omega) only [↓GO, ↓DRW, GA, ren, renB, footX, refs, cellsV, cst, cstAt, nilC, idxAddr, E.load, E.store, binO, isC, bin, ibin, sbin, una, isShift, okCell, packV, lenV, blt, fnV, asArg, snapV, snapS, snapP, snapC, snapX, flatV, flatT, openK, layBack, allT, allZ, mkS, srcOf0, unN, idxV, nilEq, give, tupV, mkEnv, extV, pickV, LVS, OVS, LTS, TYS, PMS, pmT, OWS, ownT, GHS, ghT, DMS, dmT, Int.reduceToNat, Nat.reduceGT, ↓reduceIte, Nat.reduceAdd, Nat.reduceMul, Nat.reduceSub, Nat.reduceEqDiff, Nat.reduceLeDiff, Nat.reduceLT, Nat.reduceBEq, Int.reduceBEq, Int.reduceBNe, Int.reduceEq, Int.reduceLT, Int.reduceLE, Int.reduceGT, Int.reduceNeg, reduceCtorEq, wrap_in, c1, c2, h18, h19]
          rw [left, if_pos (by simp only [Tr.bulk]; omega)]
        · rw [left, if_neg n3] at h19
          have c3 : decide (n - (s.length : Int) - (ks.length : Int) - (bulkS ks : Int) - ((cs.length + Tr.bulks cs : Nat) : Int) < 0) = false := by simpa using n3
          simp (disch := omega) only [↓GO, ↓DRW, GA, ren, renB, footX, refs, cellsV, cst, cstAt, nilC, idxAddr, E.load, E.store, binO, isC, bin, ibin, sbin, una, isShift, okCell, packV, lenV, blt, fnV, asArg, snapV, snapS, snapP, snapC, snapX, flatV, flatT, openK, layBack, allT, allZ, mkS, srcOf0, unN, idxV, nilEq, give, tupV, mkEnv, extV, pickV, LVS, OVS, LTS, TYS, PMS, pmT, OWS, ownT, GHS, ghT, DMS, dmT, Int.reduceToNat, Nat.reduceGT, ↓reduceIte, Nat.reduceAdd, Nat.reduceMul, Nat.reduceSub, Nat.reduceEqDiff, Nat.reduceLeDiff, Nat.reduceLT, Nat.reduceBEq, Int.reduceBEq, Int.reduceBNe, Int.reduceEq, Int.reduceLT, Int.reduceLE, Int.reduceGT, Int.reduceNeg, reduceCtorEq, wrap_in, c1, c2, c3, h18, h19]
          rw [left, if_neg (by simp only [Tr.bulk]; omega)]
          simp only [Tr.bulk]
          rw [show n - (s.length : Int) - (ks.length : Int) - (bulkS ks : Int) - ((cs.length + Tr.bulks cs : Nat) : Int) = n - ((s.length + ks.length + bulkS ks + cs.length + Tr.bulks cs : Nat) : Int) by omega]
def EqT (t : Tr) : Prop := callPure (EV Try.prog pol) 13 [.agg (t.enc.map .t), .agg (t.enc.map .t)] = some (.t (.bool true))
theorem l_eqTreeS (cs : List Tr) (hl : cs.length ≤ 4194304) (hc : ∀ c ∈ cs, EqT c) : ∀ (d i : Nat), cs.length - i = d → i ≤ cs.length →
    EV Try.prog pol (.loop 15 58 0 [.t (.list 5 (Tr.encs cs)), .t (.list 5 (Tr.encs cs)), .t (.int .i64 (i : Int))] []) = some (.loop (.exit 0) [.bad] [])
  | 0, i, hd, hi => by
    have hi' : i = cs.length := by omega
    subst hi'
    refine loop_eq Try.func15 rfl rfl ?_
    have c : decide (((cs.length : Nat) : Int) < ((cs.length : Nat) : Int)) = false := by simp
    simp only [↓GO, ↓DRW, GA, ren, renB, footX, refs, cellsV, cst, cstAt, nilC, idxAddr, E.load, E.store, binO, isC, bin, ibin, sbin, una, isShift, okCell, packV, lenV, blt, fnV, asArg, snapV, snapS, snapP, snapC, snapX, flatV, flatT, openK, layBack, allT, allZ, mkS, srcOf0, unN, idxV, nilEq, give, tupV, mkEnv, extV, pickV, LVS, OVS, LTS, TYS, PMS, pmT, OWS, ownT, GHS, ghT, DMS, dmT, Int.reduceToNat, Nat.reduceGT, ↓reduceIte, Nat.reduceAdd, Nat.reduceMul, Nat.reduceSub, Nat.reduceEqDiff, Nat.reduceLeDiff, Nat.reduceLT, Nat.reduceBEq, Int.reduceBEq, Int.reduceBNe, Int.reduceEq, Int.reduceLT, Int.reduceLE, Int.reduceGT, Int.reduceNeg, reduceCtorEq, Tr.encs_len, c]
  | d + 1, i, hd, hi => by
    have hlt : i < cs.length := by omega
    have c : decide ((i : Int) < ((cs.length : Nat) : Int)) = true := by simp; omega
    have IH := l_eqTreeS cs hl hc d (i + 1) (by omega) (by omega)
    have e1 : (i : Int) + 1 = ((i + 1 : Nat) : Int) := by omega
    have hcall := hc _ (List.getElem_mem hlt)
    have hget := Tr.encs_get cs i hlt
    generalize hci : cs[i] = ci at hcall hget
    obtain ⟨k', n', s', ks', cs'⟩ := ci
    simp only [EqT, Tr.enc, List.map_cons, List.map_nil] at hcall hget
    refine loop_eq Try.func15 rfl rfl ?_
    simp (disch := omega) only [↓GO, ↓DRW, GA, ren, renB, footX, refs, cellsV, cst, cstAt, nilC, idxAddr, E.load, E.store, binO, isC, bin, ibin, sbin, una, isShift, okCell, packV, lenV, blt, fnV, asArg, snapV, snapS, snapP, snapC, snapX, flatV, flatT, openK, layBack, allT, allZ, mkS, srcOf0, unN, idxV, nilEq, give, tupV, mkEnv, extV, pickV, LVS, OVS, LTS, TYS, PMS, pmT, OWS, ownT, GHS, ghT, DMS, dmT, Int.reduceToNat, Nat.reduceGT, ↓reduceIte, Nat.reduceAdd, Nat.reduceMul, Nat.reduceSub, Nat.reduceEqDiff, Nat.reduceLeDiff, Nat.reduceLT, Nat.reduceBEq, Int.reduceBEq, Int.reduceBNe, Int.reduceEq, Int.reduceLT, Int.reduceLE, Int.reduceGT, Int.reduceNeg, reduceCtorEq, Tr.encs_len, c, hget, wrap_in, e1, hcall]
    exact IH
theorem c_eqTreeS (cs : List Tr) (hl : cs.length ≤ 4194304) (hc : ∀ c ∈ cs, EqT c) : callPure (EV Try.prog pol) 15 [.t (.list 5 (Tr.encs cs)), .t (.list 5 (Tr.encs cs))] = some (.t (.bool true)) := by
  apply eq_call
  refine call_eq rfl Try.func15 rfl (by kernel_rfl) ?_
  unfold Try.f15
  have IH := l_eqTreeS cs hl hc cs.length 0 (by omega) (by omega)
  simp only [Int.natCast_zero] at IH
  simp only [↓GO, ↓DRW, GA, ren, renB, footX, refs, cellsV, cst, cstAt, nilC, idxAddr, E.load, E.store, binO, isC, bin, ibin, sbin, una, isShift, okCell, packV, lenV, blt, fnV, asArg, snapV, snapS, snapP, snapC, snapX, flatV, flatT, openK, layBack, allT, allZ, mkS, srcOf0, unN, idxV, nilEq, give, tupV, mkEnv, extV, pickV, LVS, OVS, LTS, TYS, PMS, pmT, OWS, ownT, GHS, ghT, DMS, dmT, Int.reduceToNat, Nat.reduceGT, ↓reduceIte, Nat.reduceAdd, Nat.reduceMul, Nat.reduceSub, Nat.reduceEqDiff, Nat.reduceLeDiff, Nat.reduceLT, Nat.reduceBEq, Int.reduceBEq, Int.reduceBNe, Int.reduceEq, Int.reduceLT, Int.reduceLE, Int.reduceGT, Int.reduceNeg, reduceCtorEq, Tr.encs_len, IH, bne_self_eq_false]
theorem c_eqTree : ∀ (N : Nat) (t : Tr), t.nd ≤ N → t.bulk ≤ 4194304 → EqT t
  | 0, .mk k n s ks cs, h, _ => by simp [Tr.nd] at h
  | N + 1, .mk k n s ks cs, h, ho => by
    simp only [Tr.nd] at h
    simp only [Tr.bulk] at ho
    have hc : ∀ c ∈ cs, EqT c := fun c hc => c_eqTree N c (by have := Tr.nds_mem hc; omega) (by have := Tr.bulks_mem hc; omega)
    simp only [EqT, Tr.enc, List.map_cons, List.map_nil]
    apply eq_call
    refine call_eq rfl Try.func13 rfl (by kernel_rfl) ?_
    unfold Try.f13
    simp only [↓GO, ↓DRW, GA, ren, renB, footX, refs, cellsV, cst, cstAt, nilC, idxAddr, E.load, E.store, binO, isC, bin, ibin, sbin, una, isShift, okCell, packV, lenV, blt, fnV, asArg, snapV, snapS, snapP, snapC, snapX, flatV, flatT, openK, layBack, allT, allZ, mkS, srcOf0, unN, idxV, nilEq, give, tupV, mkEnv, extV, pickV, LVS, OVS, LTS, TYS, PMS, pmT, OWS, ownT, GHS, ghT, DMS, dmT, Int.reduceToNat, Nat.reduceGT, ↓reduceIte, Nat.reduceAdd, Nat.reduceMul, Nat.reduceSub, Nat.reduceEqDiff, Nat.reduceLeDiff, Nat.reduceLT, Nat.reduceBEq, Int.reduceBEq, Int.reduceBNe, Int.reduceEq, Int.reduceLT, Int.reduceLE, Int.reduceGT, Int.reduceNeg, reduceCtorEq, bne_self_eq_false, c_eqStringS ks (by omega), c_eqTreeS cs (by omega) hc]
end Go.Proofs.Ytcphjdfmjhijkaa
/- Lists that own their memory, as rows; trees laid anew. Conditions: those of each lemma. -/
namespace Go.Proofs.Ytcphjdfmjhijkaa
open E
set_option linter.unusedSimpArgs false
set_option linter.unusedVariables false
set_option maxRecDepth 100000
theorem rch3 (h : Heap) (ids : List Nat) : reach h 3 ids = reach' h 3 ids := (reach'_eq h 3 ids).symm
/-- a row whose lists are owned -/
def ocE (es : List (List T)) : List (List V) := es.map fun e => e.map oc
theorem ocE_len (es : List (List T)) : (ocE es).length = es.length := by simp [ocE]
theorem ocE_app (a b : List (List T)) : ocE (a ++ b) = ocE a ++ ocE b := by simp [ocE]
theorem ocE_cons (x : List T) (b : List (List T)) : ocE (x :: b) = x.map oc :: ocE b := rfl
theorem ocE_nil : ocE [] = [] := rfl
theorem oc_refs (x : T) : refs (oc x) = [] := by cases x <;> rfl
theorem ocs_refs : ∀ e : List T, refs.refss (e.map oc) = []
  | [] => rfl
  | x :: e => by simp only [List.map_cons, refs.refss, oc_refs, ocs_refs e, List.nil_append]
theorem ocE_refs : ∀ es : List (List T), (ocE es).flatMap refs.refss = []
  | [] => rfl
  | e :: es => by rw [ocE_cons, List.flatMap_cons, ocs_refs, ocE_refs es]; rfl
theorem oc_ren (m : Nat → Option Nat) (x : T) : ren m (oc x) = oc x := by cases x <;> rfl
theorem ocs_ren (m : Nat → Option Nat) : ∀ e : List T, ren.rens m (e.map oc) = e.map oc
  | [] => rfl
  | x :: e => by simp only [List.map_cons, ren.rens, oc_ren, ocs_ren m e]
theorem ocE_ren (m : Nat → Option Nat) : ∀ es : List (List T), (ocE es).map (ren.rens m) = ocE es
  | [] => rfl
  | e :: es => by rw [ocE_cons, List.map_cons, ocs_ren, ocE_ren m es]
theorem rep_refs (z : List V) (hz : refs.refss z = []) : ∀ k, (List.replicate k z).flatMap refs.refss = []
  | 0 => rfl
  | k + 1 => by rw [List.replicate_succ, List.flatMap_cons, hz, rep_refs z hz k]; rfl
theorem rep_ren (m : Nat → Option Nat) (z : List V) (hz : ren.rens m z = z) (k : Nat) : (List.replicate k z).map (ren.rens m) = List.replicate k z := by rw [List.map_replicate, hz]
theorem mid_get {α : Type} (A B : List α) (x : α) (n : Nat) (h : A.length = n) : (A ++ x :: B)[n]? = some x := by
  rw [List.getElem?_append_right (by omega), h, Nat.sub_self]; rfl
theorem mid_set {α : Type} (A B : List α) (x y : α) (n : Nat) (h : A.length = n) : (A ++ x :: B).set n y = A ++ y :: B := by
  rw [List.set_append_right _ _ (by omega), h, Nat.sub_self]; rfl
theorem gv_oc (x : T) : gvC (oc x) = some x := by cases x <;> rfl
theorem gvs_oc : ∀ e : List T, gvCs (e.map oc) = some e
  | [] => rfl
  | x :: e => by simp only [List.map_cons, gvCs, gv_oc, gvs_oc e]
theorem gvE_oc : ∀ es : List (List T), gvE (ocE es) = some es
  | [] => rfl
  | e :: es => by rw [ocE_cons]; simp only [gvE, gvs_oc, gvE_oc es]
theorem snapX_oc (h : Heap) (x : T) : snapX h (oc x) = some x := by cases x <;> rfl
theorem snaps_oc (h : Heap) : ∀ e : List T, snapCs h (e.map oc) = some e
  | [] => rfl
  | x :: e => by simp only [List.map_cons, snapCs, snapX_oc, snaps_oc h e]
theorem snapE_oc (h : Heap) : ∀ es : List (List T), snapE h (ocE es) = some es
  | [] => rfl
  | e :: es => by rw [ocE_cons]; simp only [snapE, snaps_oc, snapE_oc h es]
theorem flatE_strs : ∀ l : List Str, flatE (strs l) = true
  | [] => rfl
  | x :: l => by
    have := flatE_strs l
    unfold flatE strs at this ⊢
    rw [List.map_cons, List.all_cons, this]; rfl
theorem oT_tr : ∀ t : Tr, oTs (t.enc.map oc) = some t.enc
  | .mk k n s ks cs => rfl
theorem oT_trs : ∀ cs : List Tr, oTss (ocE (Tr.encs cs)) = some (Tr.encs cs)
  | [] => rfl
  | c :: cs => by
    have : Tr.encs (c :: cs) = c.enc :: Tr.encs cs := by simp [Tr.encs_eq]
    rw [this, ocE_cons]
    simp only [oTss, oT_tr, oT_trs cs]
theorem c_toStrO (ks : List Str) (hl : ks.length ≤ 1048576) : EV Try.prog pol (.callO false 10 [.t (.list 1 (strs ks))] []) = some (.call (.sl 0 0 ks.length (some ks.length)) [.ts 1 (strs ks)]) := by
  refine callO_eq Try.func10 rfl (by kernel_rfl) ?_
  unfold Try.f10
  have h1 : ¬ ((ks.length : Int) < 0) := by omega
  have h2 : ¬ (ks.length * 16 > 140737488355328) := by omega
  have h3 : ¬ (ks.length > 140737488355328) := by omega
  have hz : List.replicate ks.length [T.str []] = fillE (strs ks) [.str []] 0 := by rw [fillE_zero, strs_len]
  have IH := l_toStringS ks hl ks.length 0 (by omega) (by omega)
  simp only [Int.natCast_zero] at IH
  simp (disch := omega) only [↓GO, ↓DRW, GA, ren, renB, footX, refs, cellsV, cst, cstAt, nilC, idxAddr, E.load, E.store, binO, isC, bin, ibin, sbin, una, isShift, okCell, packV, lenV, blt, fnV, asArg, snapV, snapS, snapP, snapC, snapX, flatV, flatT, openK, layBack, allT, allZ, mkS, srcOf0, unN, idxV, nilEq, give, tupV, mkEnv, extV, pickV, LVS, OVS, LTS, TYS, PMS, pmT, OWS, ownT, GHS, ghT, DMS, dmT, Int.reduceToNat, Nat.reduceGT, ↓reduceIte, Nat.reduceAdd, Nat.reduceMul, Nat.reduceSub, Nat.reduceEqDiff, Nat.reduceLeDiff, Nat.reduceLT, Nat.reduceBEq, Int.reduceBEq, Int.reduceBNe, Int.reduceEq, Int.reduceLT, Int.reduceLE, Int.reduceGT, Int.reduceNeg, reduceCtorEq, strs_len, Int.toNat_natCast, h1, h2, h3, hz, IH, ne_eq, not_true_eq_false]
def zV : List V := [.t (.int .i64 0), .t (.int .i64 0), .t (.str []), .nil 1, .nil 5]
def ToO (t : Tr) : Prop := EV Try.prog pol (.callO false 22 [.agg (t.enc.map .t)] []) = some (.call (match t with
  | .mk k n s ks cs => .agg [.t (.int .i64 k), .t (.int .i64 n), .t (.str s), .sl 0 0 ks.length (some ks.length), .sl 1 0 cs.length (some cs.length)]) (match t with | .mk k n s ks cs => [.ts 1 (strs ks), .vs 5 (ocE (Tr.encs cs))]))
theorem l_toO (cs : List Tr) (hl : cs.length ≤ 1048576) (hc : ∀ c ∈ cs, ToO c) : ∀ (rest pre : List Tr), cs = pre ++ rest →
    EV Try.prog pol (.loop 11 58 0 [.t (.list 5 (Tr.encs cs)), .sl 0 0 cs.length (some cs.length), .t (.int .i64 (pre.length : Int))] [.vs 5 (ocE (Tr.encs pre) ++ List.replicate rest.length zV)])
      = some (.loop (.exit 0) [.sl 0 0 cs.length (some cs.length)] [.vs 5 (ocE (Tr.encs cs))])
  | [], pre, hs => by
    have c : decide ((pre.length : Int) < (cs.length : Int)) = false := by simp [hs]
    have e : cs = pre := by simpa using hs
    have hA := ocE_refs (Tr.encs pre)
    have hR := fun m => ocE_ren m (Tr.encs pre)
    simp only [List.length_nil, List.replicate_zero, List.append_nil]
    refine loop_eq Try.func11 rfl rfl ?_
    simp (disch := ((try simp only [List.length_cons, List.length_append, List.length_nil, List.length_map]); omega)) only [↓GO, ↓DRW, GA, ren, renB, footX, refs, cellsV, cst, cstAt, nilC, idxAddr, E.load, E.store, binO, isC, bin, ibin, sbin, una, isShift, okCell, packV, lenV, blt, fnV, asArg, snapV, snapS, snapP, snapC, snapX, flatV, flatT, openK, layBack, allT, allZ, mkS, srcOf0, unN, idxV, nilEq, give, tupV, mkEnv, extV, pickV, LVS, OVS, LTS, TYS, PMS, pmT, OWS, ownT, GHS, ghT, DMS, dmT, Int.reduceToNat, Nat.reduceGT, ↓reduceIte, Nat.reduceAdd, Nat.reduceMul, Nat.reduceSub, Nat.reduceEqDiff, Nat.reduceLeDiff, Nat.reduceLT, Nat.reduceBEq, Int.reduceBEq, Int.reduceBNe, Int.reduceEq, Int.reduceLT, Int.reduceLE, Int.reduceGT, Int.reduceNeg, reduceCtorEq, selK_some, selK_none, bltO, brwK, brwA, brwB, sliceO, mkO, appO, appS, ghOne, ghAt, ghCells, fld1, unf1, setC, oc, oTs, oT, rowT, rowT.rowTs, rowB, isL, Bool.not_false, Bool.true_and, Bool.and_true, Bool.and_self, List.flatMap_append, List.map_append, List.set_cons_zero, List.set_cons_succ, Int.cast_ofNat_Int, getE_zero, getE_one, getE_two, Option.isSome_none, Tr.encs_len, c, hA, hR]
    rw [e]
  | x :: rest, pre, hs => by
    have c : decide ((pre.length : Int) < (cs.length : Int)) = true := by simp [hs]; omega
    have hget : (Tr.encs cs)[pre.length]? = some x.enc := by rw [hs]; simp [Tr.encs_eq]
    have hlen : pre.length + rest.length + 1 ≤ cs.length := by rw [hs]; simp; omega
    have hcx := hc x (by rw [hs]; simp)
    have c0 : decide ((0 : Int) ≤ (pre.length : Int)) = true := by simp
    have c00 : (0 : Int) ≤ (pre.length : Int) := by omega
    have IH := l_toO cs hl hc rest (pre ++ [x]) (by rw [hs]; simp)
    rw [show ((pre ++ [x]).length : Int) = (pre.length : Int) + 1 by simp, show Tr.encs (pre ++ [x]) = Tr.encs pre ++ [x.enc] by simp [Tr.encs_eq], ocE_app, ocE_cons, ocE_nil, List.append_assoc, List.cons_append, List.nil_append] at IH
    have hAl : (ocE (Tr.encs pre)).length = pre.length := by rw [ocE_len, Tr.encs_len]
    have hA := ocE_refs (Tr.encs pre)
    have hR := fun m => ocE_ren m (Tr.encs pre)
    have hB := rep_refs zV rfl rest.length
    have hRB := fun m => rep_ren m zV rfl rest.length
    rw [List.length_cons, List.replicate_succ]
    have hg1 := fun y => mid_get (ocE (Tr.encs pre)) (List.replicate rest.length zV) y pre.length hAl
    have hs1 := fun y z => mid_set (ocE (Tr.encs pre)) (List.replicate rest.length zV) y z pre.length hAl
    clear hs
    obtain ⟨k, n, s, ks, cs'⟩ := x
    have hfl := flatE_strs ks
    have hot := oT_trs cs'
    simp only [ToO, Tr.enc, List.map_cons, List.map_nil, oc] at hcx hget IH
    generalize ocE (Tr.encs pre) = A at *
    generalize List.replicate rest.length zV = B at *
    unfold zV
    refine loop_eq Try.func11 rfl rfl ?_
    simp (disch := ((try simp only [List.length_cons, List.length_append, List.length_nil, List.length_map]); omega)) only [↓GO, ↓DRW, GA, ren, renB, footX, refs, cellsV, cst, cstAt, nilC, idxAddr, E.load, E.store, binO, isC, bin, ibin, sbin, una, isShift, okCell, packV, lenV, blt, fnV, asArg, snapV, snapS, snapP, snapC, snapX, flatV, flatT, openK, layBack, allT, allZ, mkS, srcOf0, unN, idxV, nilEq, give, tupV, mkEnv, extV, pickV, LVS, OVS, LTS, TYS, PMS, pmT, OWS, ownT, GHS, ghT, DMS, dmT, Int.reduceToNat, Nat.reduceGT, ↓reduceIte, Nat.reduceAdd, Nat.reduceMul, Nat.reduceSub, Nat.reduceEqDiff, Nat.reduceLeDiff, Nat.reduceLT, Nat.reduceBEq, Int.reduceBEq, Int.reduceBNe, Int.reduceEq, Int.reduceLT, Int.reduceLE, Int.reduceGT, Int.reduceNeg, reduceCtorEq, selK_some, selK_none, bltO, brwK, brwA, brwB, sliceO, mkO, appO, appS, ghOne, ghAt, ghCells, fld1, unf1, setC, oc, oTs, oT, rowT, rowT.rowTs, rowB, isL, Bool.not_false, Bool.true_and, Bool.and_true, Bool.and_self, List.flatMap_append, List.map_append, List.set_cons_zero, List.set_cons_succ, Int.cast_ofNat_Int, getE_zero, getE_one, getE_two, Option.isSome_none, Tr.encs_len, c, c0, c00, if_true, Int.toNat_natCast, hget, hcx, hg1, hs1, hA, hR, hB, hRB, wrap_in, hfl, hot, IH, strs_len, ocE_len, ocE_ren, ocE_refs, rch3]
end Go.Proofs.Ytcphjdfmjhijkaa
/- Trees laid anew; marks. Conditions: those of each lemma. -/
namespace Go.Proofs.Ytcphjdfmjhijkaa
open E
set_option linter.unusedSimpArgs false
set_option linter.unusedVariables false
set_option maxRecDepth 100000
theorem c_toTreeSO (cs : List Tr) (hl : cs.length ≤ 1048576) (hc : ∀ c ∈ cs, ToO c) : EV Try.prog pol (.callO false 11 [.t (.list 5 (Tr.encs cs))] []) = some (.call (.sl 0 0 cs.length (some cs.length)) [.vs 5 (ocE (Tr.encs cs))]) := by
  refine callO_eq Try.func11 rfl (by kernel_rfl) ?_
  unfold Try.f11
  have h1 : ¬ ((cs.length : Int) < 0) := by omega
  have h2 : ¬ (cs.length * 80 > 140737488355328) := by omega
  have h3 : ¬ (cs.length > 140737488355328) := by omega
  have L := l_toO cs hl hc cs [] rfl
  simp only [List.length_nil, Int.natCast_zero, show Tr.encs [] = [] by simp [Tr.encs_eq], ocE_nil, List.nil_append] at L
  have hB := rep_refs zV rfl cs.length
  have hRB := fun m => rep_ren m zV rfl cs.length
  unfold zV at L hB hRB
  simp (disch := ((try simp only [List.length_cons, List.length_append, List.length_nil, List.length_map]); omega)) only [↓GO, ↓DRW, GA, ren, renB, footX, refs, cellsV, cst, cstAt, nilC, idxAddr, E.load, E.store, binO, isC, bin, ibin, sbin, una, isShift, okCell, packV, lenV, blt, fnV, asArg, snapV, snapS, snapP, snapC, snapX, flatV, flatT, openK, layBack, allT, allZ, mkS, srcOf0, unN, idxV, nilEq, give, tupV, mkEnv, extV, pickV, LVS, OVS, LTS, TYS, PMS, pmT, OWS, ownT, GHS, ghT, DMS, dmT, Int.reduceToNat, Nat.reduceGT, ↓reduceIte, Nat.reduceAdd, Nat.reduceMul, Nat.reduceSub, Nat.reduceEqDiff, Nat.reduceLeDiff, Nat.reduceLT, Nat.reduceBEq, Int.reduceBEq, Int.reduceBNe, Int.reduceEq, Int.reduceLT, Int.reduceLE, Int.reduceGT, Int.reduceNeg, reduceCtorEq, selK_some, selK_none, bltO, brwK, brwA, brwB, sliceO, mkO, appO, appS, ghOne, ghAt, ghCells, fld1, unf1, setC, oc, oTs, oT, rowT, rowT.rowTs, rowB, isL, Bool.not_false, Bool.true_and, Bool.and_true, Bool.and_self, List.flatMap_append, List.map_append, List.set_cons_zero, List.set_cons_succ, Int.cast_ofNat_Int, getE_zero, getE_one, getE_two, Option.isSome_none, Tr.encs_len, Int.toNat_natCast, h1, h2, h3, L, hB, hRB, ocE_ren, ocE_refs, ne_eq, not_true_eq_false, not_false_eq_true, rch3]
theorem c_toO : ∀ (N : Nat) (t : Tr), t.nd ≤ N → t.bulk ≤ 1048576 → ToO t
  | 0, .mk k n' s ks cs, h, _ => by simp [Tr.nd] at h
  | N + 1, .mk k n' s ks cs, h, ho => by
    simp only [Tr.nd] at h
    simp only [Tr.bulk] at ho
    have hc : ∀ c ∈ cs, ToO c := fun c hc => c_toO N c (by have := Tr.nds_mem hc; omega) (by have := Tr.bulks_mem hc; omega)
    have d1 := c_toStrO ks (by omega)
    have d2 := c_toTreeSO cs (by omega) hc
    simp only [ToO, Tr.enc, List.map_cons, List.map_nil]
    refine callO_eq Try.func22 rfl (by kernel_rfl) ?_
    unfold Try.f22
    simp (disch := ((try simp only [List.length_cons, List.length_append, List.length_nil, List.length_map]); omega)) only [↓GO, ↓DRW, GA, ren, renB, footX, refs, cellsV, cst, cstAt, nilC, idxAddr, E.load, E.store, binO, isC, bin, ibin, sbin, una, isShift, okCell, packV, lenV, blt, fnV, asArg, snapV, snapS, snapP, snapC, snapX, flatV, flatT, openK, layBack, allT, allZ, mkS, srcOf0, unN, idxV, nilEq, give, tupV, mkEnv, extV, pickV, LVS, OVS, LTS, TYS, PMS, pmT, OWS, ownT, GHS, ghT, DMS, dmT, Int.reduceToNat, Nat.reduceGT, ↓reduceIte, Nat.reduceAdd, Nat.reduceMul, Nat.reduceSub, Nat.reduceEqDiff, Nat.reduceLeDiff, Nat.reduceLT, Nat.reduceBEq, Int.reduceBEq, Int.reduceBNe, Int.reduceEq, Int.reduceLT, Int.reduceLE, Int.reduceGT, Int.reduceNeg, reduceCtorEq, selK_some, selK_none, bltO, brwK, brwA, brwB, sliceO, mkO, appO, appS, ghOne, ghAt, ghCells, fld1, unf1, setC, oc, oTs, oT, rowT, rowT.rowTs, rowB, isL, Bool.not_false, Bool.true_and, Bool.and_true, Bool.and_self, List.flatMap_append, List.map_append, List.set_cons_zero, List.set_cons_succ, Int.cast_ofNat_Int, getE_zero, getE_one, getE_two, Option.isSome_none, d1, d2, ocE_ren, ocE_refs, rch3]
/-- and as values that nobody writes -/
theorem c_toF (t : Tr) (ho : t.bulk ≤ 1048576) : callPure (EV Try.prog pol) 22 [.agg (t.enc.map .t)] = some (.agg (t.enc.map .t)) := by
  obtain ⟨k, n', s, ks, cs⟩ := t
  simp only [Tr.bulk] at ho
  have hc : ∀ c ∈ cs, ToO c := fun c hc => c_toO c.nd c (Nat.le_refl _) (by have := Tr.bulks_mem hc; omega)
  have d1 := c_toStrO ks (by omega)
  have d2 := c_toTreeSO cs (by omega) hc
  have g := gvE_oc (Tr.encs cs)
  have ht : (Tr.encs cs).take cs.length = Tr.encs cs := by rw [← Tr.encs_len cs]; simp
  have ht2 : (strs ks).take ks.length = strs ks := by rw [← strs_len ks]; simp
  simp only [Tr.enc, List.map_cons, List.map_nil]
  apply eq_call
  refine call_eq rfl Try.func22 rfl (by kernel_rfl) ?_
  unfold Try.f22
  simp (disch := ((try simp only [List.length_cons, List.length_append, List.length_nil, List.length_map]); omega)) only [↓GO, ↓DRW, GA, ren, renB, footX, refs, cellsV, cst, cstAt, nilC, idxAddr, E.load, E.store, binO, isC, bin, ibin, sbin, una, isShift, okCell, packV, lenV, blt, fnV, asArg, snapV, snapS, snapP, snapC, snapX, flatV, flatT, openK, layBack, allT, allZ, mkS, srcOf0, unN, idxV, nilEq, give, tupV, mkEnv, extV, pickV, LVS, OVS, LTS, TYS, PMS, pmT, OWS, ownT, GHS, ghT, DMS, dmT, Int.reduceToNat, Nat.reduceGT, ↓reduceIte, Nat.reduceAdd, Nat.reduceMul, Nat.reduceSub, Nat.reduceEqDiff, Nat.reduceLeDiff, Nat.reduceLT, Nat.reduceBEq, Int.reduceBEq, Int.reduceBNe, Int.reduceEq, Int.reduceLT, Int.reduceLE, Int.reduceGT, Int.reduceNeg, reduceCtorEq, selK_some, selK_none, bltO, brwK, brwA, brwB, sliceO, mkO, appO, appS, ghOne, ghAt, ghCells, fld1, unf1, setC, oc, oTs, oT, rowT, rowT.rowTs, rowB, isL, Bool.not_false, Bool.true_and, Bool.and_true, Bool.and_self, List.flatMap_append, List.map_append, List.set_cons_zero, List.set_cons_succ, Int.cast_ofNat_Int, getE_zero, getE_one, getE_two, Option.isSome_none, d1, d2, g, ht, ht2, ocE_ren, ocE_refs, rch3]
/-! ### Marks -/
def mkD : Nat → Nat → Str → Str
  | 0, _, out => out
  | n + 1, k, out => if k = 0 then out else mkD n (k / 10) (UInt8.ofNat (48 + k % 10) :: out)
/-- a number's mark -/
def mkT (k : Nat) : Str := if k = 0 then [109, 48] else 109 :: mkD k k []
theorem l_mkT : ∀ (n k : Nat) (out : Str), k ≤ n → k ≤ 9223372036854775807 → out.length + k ≤ 9223372036854775000 →
    EV Try.prog pol (.loop 35 60 0 [.t (.int .i64 (k : Int)), .t (.str out)] []) = some (.loop (.exit 0) [.t (.str (mkD n k out))] [])
  | n, 0, out, h, h1, h2 => by
    have e : mkD n 0 out = out := by cases n <;> simp [mkD]
    rw [e]
    refine loop_eq Try.func35 rfl rfl ?_
    simp (disch := ((try simp only [List.length_cons, List.length_append, List.length_nil, List.length_map]); omega)) only [↓GO, ↓DRW, GA, ren, renB, footX, refs, cellsV, cst, cstAt, nilC, idxAddr, E.load, E.store, binO, isC, bin, ibin, sbin, una, isShift, okCell, packV, lenV, blt, fnV, asArg, snapV, snapS, snapP, snapC, snapX, flatV, flatT, openK, layBack, allT, allZ, mkS, srcOf0, unN, idxV, nilEq, give, tupV, mkEnv, extV, pickV, LVS, OVS, LTS, TYS, PMS, pmT, OWS, ownT, GHS, ghT, DMS, dmT, Int.reduceToNat, Nat.reduceGT, ↓reduceIte, Nat.reduceAdd, Nat.reduceMul, Nat.reduceSub, Nat.reduceEqDiff, Nat.reduceLeDiff, Nat.reduceLT, Nat.reduceBEq, Int.reduceBEq, Int.reduceBNe, Int.reduceEq, Int.reduceLT, Int.reduceLE, Int.reduceGT, Int.reduceNeg, reduceCtorEq, Int.cast_ofNat_Int, getE_zero, getE_one, getE_two, Option.isSome_none, Int.natCast_zero]
  | 0, k + 1, out, h, h1, h2 => by omega
  | n + 1, k + 1, out, h, h1, h2 => by
    generalize hm : k + 1 = x at *
    have c : decide (((x : Nat) : Int) > 0) = true := by apply decide_eq_true; omega
    have e1 : ((x : Nat) : Int).tmod 10 = ((x % 10 : Nat) : Int) := (Int.ofNat_tmod x 10).symm
    have e2 : ((x : Nat) : Int).tdiv 10 = ((x / 10 : Nat) : Int) := (Int.ofNat_tdiv x 10).symm
    have hd : x % 10 < 10 := Nat.mod_lt _ (by omega)
    have IH := l_mkT n (x / 10) (UInt8.ofNat (48 + x % 10) :: out) (by omega) (by omega) (by simp only [List.length_cons]; omega)
    have ex : mkD (n + 1) x out = mkD n (x / 10) (UInt8.ofNat (48 + x % 10) :: out) := by rw [mkD, if_neg (by omega)]
    rw [ex]
    have w1 : IntKind.i64.wrap (48 + ((x % 10 : Nat) : Int)) = ((48 + x % 10 : Nat) : Int) := by rw [wrap_in (by omega)]; omega
    have w3 : IntKind.u8.wrap ((48 + x % 10 : Nat) : Int) = ((48 + x % 10 : Nat) : Int) := by
      have key : ∀ n : Fin 256, IntKind.u8.wrap (n.val : Int) = (n.val : Int) := by decide +kernel
      exact key ⟨48 + x % 10, by omega⟩
    have w2 : IntKind.i64.wrap ((x / 10 : Nat) : Int) = ((x / 10 : Nat) : Int) := wrap_in (by omega)
    refine loop_eq Try.func35 rfl rfl ?_
    simp (disch := ((try simp only [List.length_cons, List.length_append, List.length_nil, List.length_map]); omega)) only [↓GO, ↓DRW, GA, ren, renB, footX, refs, cellsV, cst, cstAt, nilC, idxAddr, E.load, E.store, binO, isC, bin, ibin, sbin, una, isShift, okCell, packV, lenV, blt, fnV, asArg, snapV, snapS, snapP, snapC, snapX, flatV, flatT, openK, layBack, allT, allZ, mkS, srcOf0, unN, idxV, nilEq, give, tupV, mkEnv, extV, pickV, LVS, OVS, LTS, TYS, PMS, pmT, OWS, ownT, GHS, ghT, DMS, dmT, Int.reduceToNat, Nat.reduceGT, ↓reduceIte, Nat.reduceAdd, Nat.reduceMul, Nat.reduceSub, Nat.reduceEqDiff, Nat.reduceLeDiff, Nat.reduceLT, Nat.reduceBEq, Int.reduceBEq, Int.reduceBNe, Int.reduceEq, Int.reduceLT, Int.reduceLE, Int.reduceGT, Int.reduceNeg, reduceCtorEq, Int.cast_ofNat_Int, getE_zero, getE_one, getE_two, Option.isSome_none, c, e1, e2, w1, w2, w3, conv, bytesElem, bytesOf, Int.toNat_natCast, List.singleton_append, le_T, IH]
end Go.Proofs.Ytcphjdfmjhijkaa

/- Lists of texts, trees: as the evaluator sees them; their sizes. Conditions: those of each lemma. -/
import Derived.Test.YtdhejeigbjmncaaDoorT1
namespace Go.Proofs.YtdhejeigbjmncaaDoor
open E
set_option linter.unusedSimpArgs false
set_option linter.unusedVariables false
set_option maxRecDepth 100000

/-- a list of texts -/
def strs (ks : List (List UInt8)) : List (List T) := ks.map fun s => [.str s]
def bulkS : List (List UInt8) → Nat
  | [] => 0
  | s :: ks => s.length + bulkS ks
theorem strs_len (ks : List (List UInt8)) : (strs ks).length = ks.length := by simp [strs]
theorem strs_get (ks : List (List UInt8)) (i : Nat) (h : i < ks.length) : (strs ks)[i]? = some [.str ks[i]] := by simp [strs, h]
theorem bulkS_drop (ks : List (List UInt8)) (i : Nat) (h : i < ks.length) : bulkS (ks.drop i) = ks[i].length + bulkS (ks.drop (i + 1)) := by
  rw [List.drop_eq_getElem_cons h]; rfl
/-- a row filled up to a place -/
def fillE (xs : List (List T)) (z : List T) (i : Nat) : List (List T) := xs.take i ++ List.replicate (xs.length - i) z
theorem fillE_zero (xs : List (List T)) (z : List T) : fillE xs z 0 = List.replicate xs.length z := by simp [fillE]
theorem fillE_all (xs : List (List T)) (z : List T) : fillE xs z xs.length = xs := by simp [fillE]
theorem fillE_len (xs : List (List T)) (z : List T) (i : Nat) (h : i ≤ xs.length) : (fillE xs z i).length = xs.length := by simp [fillE]; omega
theorem fillE_get (xs : List (List T)) (z : List T) (i : Nat) (h : i < xs.length) : (fillE xs z i)[i]? = some z := by
  unfold fillE
  rw [List.getElem?_append_right (by simp; omega), List.getElem?_replicate, if_pos (by simp; omega)]
theorem fillE_set (xs : List (List T)) (z : List T) (i : Nat) (h : i < xs.length) : (fillE xs z i).set i xs[i] = fillE xs z (i + 1) := by
  unfold fillE
  apply List.ext_getElem?
  intro j
  rw [List.getElem?_set]
  by_cases hj : i = j
  · subst hj
    rw [if_pos rfl, if_pos (by simp; omega), List.getElem?_append_left (by simp; omega)]
    simp [h]
  · rw [if_neg hj]
    rcases Nat.lt_or_ge j i with hlt | hge
    · rw [List.getElem?_append_left (by simp; omega), List.getElem?_append_left (by simp; omega)]
      rw [List.getElem?_take, List.getElem?_take, if_pos hlt, if_pos (by omega)]
    · rw [List.getElem?_append_right (by simp; omega), List.getElem?_append_right (by simp; omega), List.getElem?_replicate, List.getElem?_replicate]
      simp only [List.length_take]
      by_cases hk : j < xs.length
      · rw [if_pos (by omega), if_pos (by omega)]
      · rw [if_neg (by omega), if_neg (by omega)]
inductive Tr where
  | mk (k n : Int) (s : List UInt8) (ks : List (List UInt8)) (cs : List Tr)
mutual
def Tr.enc : Tr → List T
  | .mk k n s ks cs => [.int .i64 k, .int .i64 n, .str s, .list 1 (strs ks), .list 5 (Tr.encs cs)]
def Tr.encs : List Tr → List (List T)
  | [] => []
  | c :: cs => Tr.enc c :: Tr.encs cs
end
mutual
def Tr.bulk : Tr → Nat
  | .mk _ _ s ks cs => s.length + ks.length + bulkS ks + cs.length + Tr.bulks cs
def Tr.bulks : List Tr → Nat
  | [] => 0
  | c :: cs => Tr.bulk c + Tr.bulks cs
end
mutual
def Tr.nd : Tr → Nat
  | .mk _ _ _ _ cs => Tr.nds cs + 1
def Tr.nds : List Tr → Nat
  | [] => 0
  | c :: cs => Tr.nd c + Tr.nds cs
end
mutual
def Tr.ok : Tr → Prop
  | .mk _ _ s ks cs => s.length ≤ 9223372036854775807 ∧ ks.length ≤ 9223372036854775807 ∧ (∀ x ∈ ks, x.length ≤ 9223372036854775807) ∧ cs.length ≤ 9223372036854775807 ∧ Tr.oks cs
def Tr.oks : List Tr → Prop
  | [] => True
  | c :: cs => Tr.ok c ∧ Tr.oks cs
end
theorem Tr.encs_eq : ∀ cs : List Tr, Tr.encs cs = cs.map Tr.enc
  | [] => rfl
  | c :: cs => by simp [Tr.encs, Tr.encs_eq cs]
theorem Tr.encs_len (cs : List Tr) : (Tr.encs cs).length = cs.length := by simp [Tr.encs_eq]
theorem Tr.encs_get (cs : List Tr) (i : Nat) (h : i < cs.length) : (Tr.encs cs)[i]? = some cs[i].enc := by simp [Tr.encs_eq, h]
theorem Tr.bulks_drop (cs : List Tr) (i : Nat) (h : i < cs.length) : Tr.bulks (cs.drop i) = cs[i].bulk + Tr.bulks (cs.drop (i + 1)) := by
  rw [List.drop_eq_getElem_cons h]; rfl
theorem Tr.nds_mem : ∀ {cs : List Tr} {c : Tr}, c ∈ cs → c.nd ≤ Tr.nds cs
  | c' :: cs, c, h => by
    simp only [Tr.nds]
    rcases List.mem_cons.1 h with rfl | h
    · omega
    · have := Tr.nds_mem h; omega
theorem Tr.oks_mem : ∀ {cs : List Tr} {c : Tr}, Tr.oks cs → c ∈ cs → c.ok
  | c' :: cs, c, h, hm => by
    simp only [Tr.oks] at h
    rcases List.mem_cons.1 hm with rfl | hm
    · exact h.1
    · exact Tr.oks_mem h.2 hm

theorem Tr.bulks_mem : ∀ {cs : List Tr} {c : Tr}, c ∈ cs → c.bulk ≤ Tr.bulks cs
  | c' :: cs, c, h => by
    simp only [Tr.bulks]
    rcases List.mem_cons.1 h with rfl | h
    · omega
    · have := Tr.bulks_mem h; omega
end Go.Proofs.YtdhejeigbjmncaaDoor

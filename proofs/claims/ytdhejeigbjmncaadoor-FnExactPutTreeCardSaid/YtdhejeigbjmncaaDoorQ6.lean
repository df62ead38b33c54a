/- The text of a tree: how long; what a right tree is. Conditions: those of each lemma. -/
import Derived.Test.YtdhejeigbjmncaaDoorQ5
namespace Go.Proofs.YtdhejeigbjmncaaDoor
open E
set_option linter.unusedSimpArgs false
set_option linter.unusedVariables false
set_option maxRecDepth 100000
theorem own_kind {k n : Int} {s : Str} {ks : List Str} {cs : List Tr} (h : ownT k n s ks cs = true) :
    (k = 0 ∨ k = 1 ∨ k = 2 ∨ k = 3 ∧ 0 ≤ n ∧ n ≤ 999999999 ∨ k = 4) ∨ k = 5 ∨ k = 6 ∧ ks.length = cs.length := by
  by_cases h0 : k = 0
  · exact .inl (.inl h0)
  by_cases h1 : k = 1
  · exact .inl (.inr (.inl h1))
  by_cases h2 : k = 2
  · exact .inl (.inr (.inr (.inl h2)))
  by_cases h3 : k = 3
  · subst h3
    simp [ownT, B2] at h
    exact .inl (.inr (.inr (.inr (.inl ⟨rfl, h.2.1, h.2.2⟩))))
  by_cases h4 : k = 4
  · exact .inl (.inr (.inr (.inr (.inr h4))))
  by_cases h5 : k = 5
  · exact .inr (.inl h5)
  by_cases h6 : k = 6
  · subst h6
    simp [ownT] at h
    exact .inr (.inr ⟨rfl, by omega⟩)
  · simp [ownT, h0, h1, h2, h3, h4, h5, h6] at h
theorem right_own {k n : Int} {s : Str} {ks : List Str} {cs : List Tr} {d : Int} (h : rightT (.mk k n s ks cs) d = true) : rightsT cs (d - 1) = true ∧ 0 ≤ d ∧ ownT k n s ks cs = true := by
  rw [show rightT (.mk k n s ks cs) d = (rightsT cs (d - 1) && (decide (0 ≤ d) && ownT k n s ks cs)) from rfl] at h
  simpa using h
theorem rights_mem : ∀ {cs : List Tr} {d : Int} {c : Tr}, rightsT cs d = true → c ∈ cs → rightT c d = true
  | x :: cs, d, c, h, hc => by
    simp only [rightsT, Bool.and_eq_true] at h
    rcases List.mem_cons.1 hc with rfl | hc
    · exact h.1
    · exact rights_mem h.2 hc
theorem bulkS_drop_getD (ks : List Str) (i : Nat) : (ks.getD i []).length + bulkS (ks.drop (i + 1)) ≤ bulkS (ks.drop i) := by
  by_cases h : i < ks.length
  · rw [bulkS_drop ks i h]
    simp [h]
  · rw [List.drop_of_length_le (by omega)]
    simp [bulkS, List.getD, List.getElem?_eq_none (Nat.le_of_not_lt h)]
theorem tail_lenT (sep : Str) : ∀ l : List Str, (Lib.joinTail sep l).length = bulkS l + sep.length * l.length
  | [] => by simp [Lib.joinTail, bulkS]
  | x :: l => by
    have := tail_lenT sep l
    simp only [Lib.joinTail] at this
    simp only [Lib.joinTail, List.map_cons, List.flatten_cons, List.length_append, bulkS, List.length_cons, this, Nat.mul_add]
    omega
theorem join_lenT (sep : Str) (l : List Str) : (Lib.join l sep).length ≤ bulkS l + sep.length * l.length := by
  cases l with
  | nil => simp [Lib.join_nil]
  | cons x l =>
    rw [Lib.join_cons]
    have := tail_lenT sep l
    simp only [List.length_append, this, bulkS, List.length_cons, Nat.mul_add]
    omega
mutual
theorem put_len : ∀ (t : Tr) (d : Nat), rightT t (8 - (d : Int)) = true → (putT t d).length + 24 ≤ 4 * t.bulk + 64 * t.nd
  | .mk k n s ks cs, d, h => by
    obtain ⟨h1, h2, h3⟩ := right_own h
    rw [show (8 : Int) - (d : Int) - 1 = 8 - ((d + 1 : Nat) : Int) by omega] at h1
    have hp := partss_len k ks 0 cs (d + 1) h1 (by omega)
    have hj := join_lenT [44, 10] (partsT k ks 0 cs (d + 1))
    have hq := quoteS_len s
    have hs := sp_len d
    rw [parts_len] at hj
    simp only [List.drop_zero] at hp
    have hk := own_kind h3
    rw [putT]
    simp only [Tr.bulk, Tr.nd]
    have hx : ((cond (k == 6) ([123] : Str) [91]) ++ ((cond ((cs.length : Int) == 0) [] (10 :: (Lib.join (partsT k ks 0 cs (d + 1)) [44, 10] ++ 10 :: sp d))) ++ (cond (k == 6) ([125] : Str) [93]))).length ≤ (Lib.join (partsT k ks 0 cs (d + 1)) [44, 10]).length + (sp d).length + 4 := by
      cases (k == 6) <;> cases ((cs.length : Int) == 0) <;> simp only [cond_true, cond_false, List.length_append, List.length_cons, List.length_nil] <;> omega
    have hit : k = 3 → (Lib.itoa n).length ≤ 9 := fun hk3 => by
      rcases hk with (rfl | rfl | rfl | ⟨_, a, b⟩ | rfl) | rfl | ⟨rfl, _⟩
      any_goals omega
      exact itoa_len n a b
    simp only [List.length_cons, List.length_nil] at hj
    cases h0 : (k == 0) with
    | true => simp only [cond_true, List.length_cons, List.length_nil]; omega
    | false =>
    cases h1' : (k == 1) with
    | true => simp only [cond_true, cond_false, List.length_cons, List.length_nil]; omega
    | false =>
    cases h2' : (k == 2) with
    | true => simp only [cond_true, cond_false, List.length_cons, List.length_nil]; omega
    | false =>
    cases h3' : (k == 3) with
    | true => simp only [cond_true, cond_false]; have := hit (eq_of_beq h3'); omega
    | false =>
    cases h4' : (k == 4) with
    | true => simp only [cond_true, cond_false]; omega
    | false => simp only [cond_false]; omega
theorem partss_len : ∀ (k : Int) (ks : List Str) (i : Nat) (cs : List Tr) (d : Nat), rightsT cs (8 - (d : Int)) = true → d ≤ 9 →
    bulkS (partsT k ks i cs d) + 2 * cs.length ≤ 4 * Tr.bulks cs + 64 * Tr.nds cs + 4 * bulkS (ks.drop i)
  | k, ks, i, [], d, h, hd => by simp [partsT, bulkS, Tr.bulks, Tr.nds]
  | k, ks, i, c :: cs, d, h, hd => by
    simp only [rightsT, Bool.and_eq_true] at h
    have h1 := put_len c d h.1
    have h2 := partss_len k ks (i + 1) cs d h.2 hd
    have h3 := bulkS_drop_getD ks i
    have h4 := quoteS_len (ks.getD i [])
    have h5 := sp_len d
    have hx : (cond (k == 6) (quoteS (ks.getD i []) ++ [58, 32]) []).length ≤ (quoteS (ks.getD i [])).length + 2 := by
      cases (k == 6) <;> simp only [cond_true, cond_false, List.length_append, List.length_cons, List.length_nil] <;> omega
    simp only [partsT, bulkS, List.length_append, Tr.bulks, Tr.nds, List.length_cons]
    omega
end
end Go.Proofs.YtdhejeigbjmncaaDoor

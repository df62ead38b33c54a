/- What the laws' arguments are: trees. Conditions: those of each lemma. -/
import Derived.Test.YtdhejeigbjmncaaDoorT2
import Derived.Test.YtdhejeigbjmncaaDoorS1
namespace Go.Proofs.YtdhejeigbjmncaaDoor
open E
set_option linter.unusedSimpArgs false
set_option linter.unusedVariables false
set_option maxRecDepth 100000
theorem WT_strsT {es : List (List T)} (h : ∀ c ∈ es, WT Tryd.prog 9 c) : ∃ ks, es = strs ks ∧ ∀ x ∈ ks, x.length ≤ 9223372036854775807 := by
  induction es with
  | nil => exact ⟨[], rfl, by simp⟩
  | cons c es ih =>
    obtain ⟨ks, e1, e2⟩ := ih fun c' hc => h c' (by simp [hc])
    obtain ⟨l, e3, e4⟩ := (h c (by simp)).inv_str Tryd.underlying9
    exact ⟨l :: ks, by simp [strs, e1, e3], by simpa using ⟨e4, e2⟩⟩
theorem WT_trs {es : List (List T)} (h : ∀ c ∈ es, ∃ t : Tr, c = t.enc ∧ t.ok) : ∃ ts, es = Tr.encs ts ∧ Tr.oks ts := by
  induction es with
  | nil => exact ⟨[], rfl, trivial⟩
  | cons c es ih =>
    obtain ⟨ts, e1, e2⟩ := ih fun c' hc => h c' (by simp [hc])
    obtain ⟨t, e3, e4⟩ := h c (by simp)
    exact ⟨t :: ts, by simp [Tr.encs, e1, e3], ⟨e4, e2⟩⟩
theorem WT_tree {t : TypeId} {cs : List T} (h : WT Tryd.prog t cs) : (t = 25 → ∃ tr : Tr, cs = tr.enc ∧ tr.ok) ∧ (t = 23 → ∃ ts, cs = [.list 5 (Tr.encs ts)] ∧ ts.length ≤ 9223372036854775807 ∧ Tr.oks ts) := by
  have k1 : Tryd.prog.cellsOf 3 = 1 := by kernel_rfl
  have k2 : Tryd.prog.cellsOf 9 = 1 := by kernel_rfl
  have k3 : Tryd.prog.cellsOf 22 = 1 := by kernel_rfl
  have k4 : Tryd.prog.cellsOf 23 = 1 := by kernel_rfl
  have k5 : Tryd.prog.cellsOf 25 = 5 := by kernel_rfl
  induction h with
  | int t k n h hw =>
    constructor
    · rintro rfl; rw [Tryd.underlying25] at h; cases h
    · rintro rfl; rw [Tryd.underlying23] at h; cases h
  | bool t b h =>
    constructor
    · rintro rfl; rw [Tryd.underlying25] at h; cases h
    · rintro rfl; rw [Tryd.underlying23] at h; cases h
  | str t l h hl =>
    constructor
    · rintro rfl; rw [Tryd.underlying25] at h; cases h
    · rintro rfl; rw [Tryd.underlying23] at h; cases h
  | list t e es h hl hs ih =>
    constructor
    · rintro rfl; rw [Tryd.underlying25] at h; cases h
    · rintro rfl
      rw [Tryd.underlying23] at h
      cases h
      obtain ⟨ts, e1, e2⟩ := WT_trs fun c hc => (ih c hc).1 rfl
      subst e1
      refine ⟨ts, by rw [k5], ?_, e2⟩
      rw [Tr.encs_len] at hl
      exact hl
  | struct t fs cs h hl hs ih =>
    constructor
    · rintro rfl
      rw [Tryd.underlying25] at h
      cases h
      rw [k5] at hl
      match cs, hl with
      | [x0, x1, x2, x3, x4], _ =>
        simp [k1, k2, k3, k4] at hs ih
        obtain ⟨s0, s1, s2, s3, s4⟩ := hs
        obtain ⟨a, e0, _⟩ := s0.inv_int Tryd.underlying3
        obtain ⟨b, e1, _⟩ := s1.inv_int Tryd.underlying3
        obtain ⟨c, e2, hc⟩ := s2.inv_str Tryd.underlying9
        obtain ⟨es, e3, hes, hel⟩ := s3.inv_list Tryd.underlying22
        obtain ⟨ks, e5, hks⟩ := WT_strsT hel
        obtain ⟨ts, e4, ht1, ht2⟩ := ih
        rw [k2] at e3
        simp at e0 e1 e2 e3 e4
        subst e0 e1 e2 e3 e4 e5
        refine ⟨.mk a b c ks ts, rfl, hc, ?_, hks, ht1, ht2⟩
        rw [strs_len] at hes; exact hes
    · rintro rfl; rw [Tryd.underlying23] at h; cases h
end Go.Proofs.YtdhejeigbjmncaaDoor

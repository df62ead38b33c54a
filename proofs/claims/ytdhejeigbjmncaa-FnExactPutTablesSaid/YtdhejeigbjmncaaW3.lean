/- What the laws' arguments are: Field, Table. Conditions: those of each lemma. -/
import Derived.Test.YtdhejeigbjmncaaA3
import Derived.Test.YtdhejeigbjmncaaS1
namespace Go.Proofs.Ytdhejeigbjmncaa
open E
set_option linter.unusedSimpArgs false
set_option linter.unusedVariables false
set_option maxRecDepth 100000

theorem WT_strs {cs : List T} (h : WT Try.prog 38 cs) : ∃ ks, cs = [.list 1 (strs ks)] ∧ ks.length ≤ 9223372036854775807 ∧ ∀ x ∈ ks, x.length ≤ 9223372036854775807 := by
  obtain ⟨es, e1, e2, e3⟩ := h.inv_list Try.underlying38
  have k0 : Try.prog.cellsOf 9 = 1 := by kernel_rfl
  have key : ∀ es : List (List T), (∀ c ∈ es, WT Try.prog 9 c) → ∃ ks, es = strs ks ∧ ∀ x ∈ ks, x.length ≤ 9223372036854775807 := fun es => by
    induction es with
    | nil => exact fun _ => ⟨[], rfl, by simp⟩
    | cons c es ih =>
      intro h
      obtain ⟨ks, a1, a2⟩ := ih fun c' hc => h c' (by simp [hc])
      obtain ⟨l, a3, a4⟩ := (h c (by simp)).inv_str Try.underlying9
      exact ⟨l :: ks, by simp [strs, a1, a3], by simpa using ⟨a4, a2⟩⟩
  obtain ⟨ks, a1, a2⟩ := key es e3
  subst a1
  exact ⟨ks, by rw [e1, k0], by rw [strs_len] at e2; exact e2, a2⟩
theorem WT_Field {cs : List T} (h : WT Try.prog 63 cs) : ∃ x : LField, cs = x.enc ∧ x.ok := by
  obtain ⟨hl, hs⟩ := h.inv_struct Try.underlying63
  have k0 : Try.prog.cellsOf 63 = 4 := by kernel_rfl
  have k1 : Try.prog.cellsOf 38 = 1 := by kernel_rfl
  have k2 : Try.prog.cellsOf 4 = 1 := by kernel_rfl
  have k3 : Try.prog.cellsOf 9 = 1 := by kernel_rfl
  rw [k0] at hl
  match cs, hl with
  | [y0, y1, y2, y3], _ =>
    simp [k1, k2, k3] at hs
    obtain ⟨s0, s1, s2, s3⟩ := hs
    obtain ⟨v0, e0, o0⟩ := s0.inv_str Try.underlying9
    obtain ⟨v1, e1, o1⟩ := s1.inv_str Try.underlying9
    obtain ⟨v2, e2, o2, o2'⟩ := WT_strs s2
    obtain ⟨v3, e3⟩ := s3.inv_bool Try.underlying4
    simp at e0 e1 e2 e3
    subst e0 e1 e2 e3
    exact ⟨⟨v0, v1, v2, v3⟩, rfl, ⟨o0, o1, o2, o2'⟩⟩
theorem WT_FieldS {cs : List T} (h : WT Try.prog 30 cs) : ∃ l : List LField, cs = [.list 4 (LField.encs l)] ∧ l.length ≤ 9223372036854775807 ∧ ∀ y ∈ l, y.ok := by
  obtain ⟨es, e1, e2, e3⟩ := h.inv_list Try.underlying30
  have k0 : Try.prog.cellsOf 63 = 4 := by kernel_rfl
  have key : ∀ es : List (List T), (∀ c ∈ es, WT Try.prog 63 c) → ∃ l : List LField, es = LField.encs l ∧ ∀ y ∈ l, y.ok := fun es => by
    induction es with
    | nil => exact fun _ => ⟨[], rfl, by simp⟩
    | cons c es ih =>
      intro h
      obtain ⟨l, a1, a2⟩ := ih fun c' hc => h c' (by simp [hc])
      obtain ⟨x, a3, a4⟩ := WT_Field (h c (by simp))
      exact ⟨x :: l, by simp [LField.encs, a1, a3], by simpa using ⟨a4, a2⟩⟩
  obtain ⟨l, a1, a2⟩ := key es e3
  subst a1
  exact ⟨l, by rw [e1, k0], by rw [LField.encs_len] at e2; exact e2, a2⟩
theorem WT_Table {cs : List T} (h : WT Try.prog 32 cs) : ∃ x : LTable, cs = x.enc ∧ x.ok := by
  obtain ⟨hl, hs⟩ := h.inv_struct Try.underlying32
  have k0 : Try.prog.cellsOf 32 = 2 := by kernel_rfl
  have k1 : Try.prog.cellsOf 30 = 1 := by kernel_rfl
  have k2 : Try.prog.cellsOf 9 = 1 := by kernel_rfl
  rw [k0] at hl
  match cs, hl with
  | [y0, y1], _ =>
    simp [k1, k2] at hs
    obtain ⟨s0, s1⟩ := hs
    obtain ⟨v0, e0, o0⟩ := s0.inv_str Try.underlying9
    obtain ⟨v1, e1, o1, o1'⟩ := WT_FieldS s1
    simp at e0 e1
    subst e0 e1
    exact ⟨⟨v0, v1⟩, rfl, ⟨o0, o1, o1'⟩⟩
theorem WT_TableS {cs : List T} (h : WT Try.prog 22 cs) : ∃ l : List LTable, cs = [.list 2 (LTable.encs l)] ∧ l.length ≤ 9223372036854775807 ∧ ∀ y ∈ l, y.ok := by
  obtain ⟨es, e1, e2, e3⟩ := h.inv_list Try.underlying22
  have k0 : Try.prog.cellsOf 32 = 2 := by kernel_rfl
  have key : ∀ es : List (List T), (∀ c ∈ es, WT Try.prog 32 c) → ∃ l : List LTable, es = LTable.encs l ∧ ∀ y ∈ l, y.ok := fun es => by
    induction es with
    | nil => exact fun _ => ⟨[], rfl, by simp⟩
    | cons c es ih =>
      intro h
      obtain ⟨l, a1, a2⟩ := ih fun c' hc => h c' (by simp [hc])
      obtain ⟨x, a3, a4⟩ := WT_Table (h c (by simp))
      exact ⟨x :: l, by simp [LTable.encs, a1, a3], by simpa using ⟨a4, a2⟩⟩
  obtain ⟨l, a1, a2⟩ := key es e3
  subst a1
  exact ⟨l, by rw [e1, k0], by rw [LTable.encs_len] at e2; exact e2, a2⟩
end Go.Proofs.Ytdhejeigbjmncaa

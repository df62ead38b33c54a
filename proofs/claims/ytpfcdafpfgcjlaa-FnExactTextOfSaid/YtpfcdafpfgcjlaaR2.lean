/- The row of FnExactTextOf. Conditions: none. -/
import Derived.Test.YtpfcdafpfgcjlaaD8
namespace Go.Proofs.Ytpfcdafpfgcjlaa
open Go.ChangeShapes Go.WideShapes Go.ChangeAt Go.RowKit E
set_option maxRecDepth 100000
set_option linter.unusedVariables false

theorem WT_strs {es : List (List T)} (h : ∀ c ∈ es, WT Try.prog 9 c) : ∃ ks, es = strs ks ∧ ∀ x ∈ ks, x.length ≤ 9223372036854775807 := by
  induction es with
  | nil => exact ⟨[], rfl, by simp⟩
  | cons c es ih =>
    obtain ⟨ks, e1, e2⟩ := ih fun c' hc => h c' (by simp [hc])
    obtain ⟨l, e3, e4⟩ := (h c (by simp)).inv_str Try.underlying9
    exact ⟨l :: ks, by simp [strs, e1, e3], by simpa using ⟨e4, e2⟩⟩
theorem WT_trs {es : List (List T)} (h : ∀ c ∈ es, ∃ t : Tr, c = t.enc ∧ t.ok) : ∃ ts, es = Tr.encs ts ∧ Tr.oks ts := by
  induction es with
  | nil => exact ⟨[], rfl, trivial⟩
  | cons c es ih =>
    obtain ⟨ts, e1, e2⟩ := ih fun c' hc => h c' (by simp [hc])
    obtain ⟨t, e3, e4⟩ := h c (by simp)
    exact ⟨t :: ts, by simp [Tr.encs, e1, e3], ⟨e4, e2⟩⟩
theorem WT_tree {t : TypeId} {cs : List T} (h : WT Try.prog t cs) : (t = 32 → ∃ tr : Tr, cs = tr.enc ∧ tr.ok) ∧ (t = 30 → ∃ ts, cs = [.list 5 (Tr.encs ts)] ∧ ts.length ≤ 9223372036854775807 ∧ Tr.oks ts) := by
  have k1 : Try.prog.cellsOf 3 = 1 := by kernel_rfl
  have k2 : Try.prog.cellsOf 9 = 1 := by kernel_rfl
  have k3 : Try.prog.cellsOf 29 = 1 := by kernel_rfl
  have k4 : Try.prog.cellsOf 30 = 1 := by kernel_rfl
  have k5 : Try.prog.cellsOf 32 = 5 := by kernel_rfl
  induction h with
  | int t k n h hw =>
    constructor
    · rintro rfl; rw [Try.underlying32] at h; cases h
    · rintro rfl; rw [Try.underlying30] at h; cases h
  | bool t b h =>
    constructor
    · rintro rfl; rw [Try.underlying32] at h; cases h
    · rintro rfl; rw [Try.underlying30] at h; cases h
  | str t l h hl =>
    constructor
    · rintro rfl; rw [Try.underlying32] at h; cases h
    · rintro rfl; rw [Try.underlying30] at h; cases h
  | list t e es h hl hs ih =>
    constructor
    · rintro rfl; rw [Try.underlying32] at h; cases h
    · rintro rfl
      rw [Try.underlying30] at h
      cases h
      obtain ⟨ts, e1, e2⟩ := WT_trs fun c hc => (ih c hc).1 rfl
      subst e1
      refine ⟨ts, by rw [k5], ?_, e2⟩
      rw [Tr.encs_len] at hl
      exact hl
  | struct t fs cs h hl hs ih =>
    constructor
    · rintro rfl
      rw [Try.underlying32] at h
      cases h
      rw [k5] at hl
      match cs, hl with
      | [x0, x1, x2, x3, x4], _ =>
        simp [k1, k2, k3, k4] at hs ih
        obtain ⟨s0, s1, s2, s3, s4⟩ := hs
        obtain ⟨a, e0, _⟩ := s0.inv_int Try.underlying3
        obtain ⟨b, e1, _⟩ := s1.inv_int Try.underlying3
        obtain ⟨c, e2, hc⟩ := s2.inv_str Try.underlying9
        obtain ⟨es, e3, hes, hel⟩ := s3.inv_list Try.underlying29
        obtain ⟨ks, e5, hks⟩ := WT_strs hel
        obtain ⟨ts, e4, ht1, ht2⟩ := ih
        rw [k2] at e3
        simp at e0 e1 e2 e3 e4
        subst e0 e1 e2 e3 e4 e5
        refine ⟨.mk a b c ks ts, rfl, hc, ?_, hks, ht1, ht2⟩
        rw [strs_len] at hes; exact hes
    · rintro rfl; rw [Try.underlying30] at h; cases h

theorem textOf_ev (xs : List V) (h : WTA Try.prog [32, 9] xs) : EV Try.prog pol (.call 4 xs []) = some (.call (.t (.bool true)) []) := by
  obtain ⟨cs, v, vs, rfl, h1, h2, h3⟩ := h.inv_cons
  obtain ⟨cs', v', vs', rfl, h1', h2', h3'⟩ := h3.inv_cons
  have := h3'.inv_nil
  subst this
  obtain ⟨tr, rfl, ho⟩ := (WT_tree h1).1 rfl
  obtain ⟨key, rfl, _⟩ := h1'.inv_str Try.underlying9
  obtain ⟨k, n, s, ks, ts⟩ := tr
  have e : aggOf Try.prog 32 = true := by kernel_rfl
  have e' : aggOf Try.prog 9 = false := by kernel_rfl
  rw [e] at h2
  rw [e'] at h2'
  simp [packV, Tr.enc] at h2 h2'
  subst h2 h2'
  exact c_lawText k n s ks ts key ho

theorem textOf_lifted (os : Os) (started : os.Started) (H : Type) (enc : TypeId × Value → H) :
    ReturnsInHanded {} Try.checked os 4 .any (Rows.fnExactTextOfSpec.pre6 enc Try.prog Try.f4 Rows.fnExactTextOfRow.domain false) (Rows.fnExactTextOfSpec.post enc Try.prog Try.f4 false true false false) := by
  refine returnsInHanded_of_change (C := Try.checked) Try.own started (by kernel_rfl) Try.func4
    (ChangeSpec.witness6 (enc := enc) (C := Try.checked) false ⟨#[], #[.agg #[.int .i64 0, .int .i64 0, .string ⟨#[]⟩, .slice none 0 0, .slice none 0 0], .string ⟨#[]⟩], []⟩ 8 (by kernel_rfl) (by kernel_rfl) (by kernel_rfl) (by kernel_rfl)) ?_
  intro W base args ds gs before hval0 hW hcnd _
  have hval : ∀ (j : Nat) t v, Try.f4.params[j]? = some t → args[j]? = some v → Value.okWide Try.prog W .any base t v := hval0
  have hW' : DataW.Whole enc Try.prog Try.f4.params.toList Rows.fnExactTextOfSpec.vars false W args.toList ds gs before := hW
  refine row_of ext_ok pol_ok (l := [32, 30, 29, 3, 9]) (tb := 4) (by kernel_rfl) (by rw [Try.params4]; decide) rfl Try.kids (fun t e ht => Try.full t e ht) (by rw [Try.params4]; decide) hval hW' ?_ rfl Try.underlying4 (fun xs hx => ?_)
  · intro hg
    subst hg
    obtain ⟨p, q, hA, _⟩ := hW'
    rw [Try.params4] at hA
    obtain ⟨v0, v1, d0, d1, p0, p1, rfl, rfl, _, _⟩ := trodAll_two hA
    exact ⟨rfl, rfl, rfl⟩
  · rw [Try.params4] at hx
    exact textOf_ev xs hx

theorem textOf_holds : Rows.FnExactTextOfSaid :=
  OpenClaim.holds_of_wide 4 Try.f4 rfl rfl rfl rfl rfl rfl rfl ⟨rfl, rfl, rfl, rfl, rfl⟩ rfl rfl rfl rfl rfl (by kernel_rfl) Try.func4 (by kernel_rfl)
    (of_decide_eq_true (by kernel_rfl)) (by unfold Func.isWrapper; rw [if_neg (by decide +kernel)]; exact ⟨rfl, rfl⟩)
    (fun os started H enc _ => textOf_lifted os started H enc)
#print axioms textOf_holds
end Go.Proofs.Ytpfcdafpfgcjlaa

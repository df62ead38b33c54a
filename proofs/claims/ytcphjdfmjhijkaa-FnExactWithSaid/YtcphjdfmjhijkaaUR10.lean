/- The row of FnExactWith. Conditions: none. -/
import Derived.Test.YtcphjdfmjhijkaaUJ
namespace Go.Proofs.Ytcphjdfmjhijkaa
open Go.ChangeShapes Go.WideShapes Go.ChangeAt Go.RowKit E
set_option maxRecDepth 100000
set_option maxHeartbeats 40000000
set_option linter.unusedVariables false
set_option linter.unusedSimpArgs false
theorem with_ev (xs : List V) (h : WTA Try.prog [39, 9, 39] xs) : EV Try.prog pol (.call 5 xs []) = some (.call (.t (.bool true)) []) := by
  obtain ⟨cs, v, vs, rfl, h1, h2, h3⟩ := h.inv_cons
  obtain ⟨cs', v', vs', rfl, h1', h2', h3'⟩ := h3.inv_cons
  obtain ⟨cs2, v2, vs2, rfl, h12, h22, h32⟩ := h3'.inv_cons
  have := h32.inv_nil
  subst this
  obtain ⟨tr, rfl, ho⟩ := (WT_tree h1).1 rfl
  obtain ⟨key, rfl, hko⟩ := h1'.inv_str Try.underlying9
  obtain ⟨tr2, rfl, ho2⟩ := (WT_tree h12).1 rfl
  obtain ⟨k, n, s, ks, ts⟩ := tr
  obtain ⟨k2, n2, s2, ks2, ts2⟩ := tr2
  have e : aggOf Try.prog 39 = true := by kernel_rfl
  have e' : aggOf Try.prog 9 = false := by kernel_rfl
  rw [e] at h2 h22
  rw [e'] at h2'
  simp [packV, Tr.enc] at h2 h2' h22
  subst h2 h2' h22
  exact c_lawWith key (.mk k n s ks ts) (.mk k2 n2 s2 ks2 ts2) hko ho ho2

theorem with_lifted (os : Os) (started : os.Started) (H : Type) (enc : TypeId × Value → H) :
    ReturnsInHanded {} Try.checked os 5 .any (Rows.fnExactWithSpec.pre6 enc Try.prog Try.f5 Rows.fnExactWithRow.domain false) (Rows.fnExactWithSpec.post enc Try.prog Try.f5 false true false false) := by
  refine returnsInHanded_of_change (C := Try.checked) Try.own started (by kernel_rfl) Try.func5
    (ChangeSpec.witness6 (enc := enc) (C := Try.checked) false ⟨#[], #[.agg #[.int .i64 0, .int .i64 0, .string ⟨#[]⟩, .slice none 0 0, .slice none 0 0], .string ⟨#[]⟩, .agg #[.int .i64 0, .int .i64 0, .string ⟨#[]⟩, .slice none 0 0, .slice none 0 0]], []⟩ 8 (by kernel_rfl) (by kernel_rfl) (by kernel_rfl) (by kernel_rfl)) ?_
  intro W base args ds gs before hval0 hW hcnd _
  have hval : ∀ (j : Nat) t v, Try.f5.params[j]? = some t → args[j]? = some v → Value.okWide Try.prog W .any base t v := hval0
  have hW' : DataW.Whole enc Try.prog Try.f5.params.toList Rows.fnExactWithSpec.vars false W args.toList ds gs before := hW
  refine row_of (ext_ok W) pol_ok (l := [39, 23, 22, 3, 9, 4]) (tb := 4) (by kernel_rfl) (by rw [Try.params5]; decide) rfl Try.kids (fun t e ht => Try.full t e ht) (by rw [Try.params5]; decide) hval hW' ?_ rfl Try.underlying4 (fun xs hx => ?_)
  · intro hg
    subst hg
    obtain ⟨p, q, hA, _⟩ := hW'
    rw [Try.params5] at hA
    obtain ⟨v0, v1, v2, d0, d1, d2, p0, p1, p2, rfl, rfl, _, _, _⟩ := trodAll_three hA
    exact ⟨rfl, rfl, rfl⟩
  · rw [Try.params5] at hx
    exact with_ev xs hx

theorem with_holds : Rows.FnExactWithSaid :=
  OpenClaim.holds_of_wide 5 Try.f5 rfl rfl rfl rfl rfl rfl rfl ⟨rfl, rfl, rfl, rfl, rfl⟩ rfl rfl rfl rfl rfl (by kernel_rfl) Try.func5 (by kernel_rfl)
    (of_decide_eq_true (by kernel_rfl)) (by unfold Func.isWrapper; rw [if_neg (by decide +kernel)]; exact ⟨rfl, rfl⟩)
    (fun os started H enc _ => with_lifted os started H enc)
end Go.Proofs.Ytcphjdfmjhijkaa

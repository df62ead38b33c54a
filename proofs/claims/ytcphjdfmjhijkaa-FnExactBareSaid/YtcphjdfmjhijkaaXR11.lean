/- The row of FnExactBare. Conditions: none. -/
import Derived.Test.YtcphjdfmjhijkaaXK
namespace Go.Proofs.Ytcphjdfmjhijkaa
open Go.ChangeShapes Go.WideShapes Go.ChangeAt Go.RowKit E
set_option maxRecDepth 100000
set_option maxHeartbeats 40000000
set_option linter.unusedVariables false
set_option linter.unusedSimpArgs false
theorem bare_ev (xs : List V) (h : WTA Try.prog [49, 4] xs) : EV Try.prog pol (.call 6 xs []) = some (.call (.t (.bool true)) []) := by
  obtain ⟨cs, v, vs, rfl, h1, h2, h3⟩ := h.inv_cons
  obtain ⟨cs', v', vs', rfl, h1', h2', h3'⟩ := h3.inv_cons
  have := h3'.inv_nil
  subst this
  obtain ⟨g, rfl, ho⟩ := WT_Graph h1
  obtain ⟨kd, rfl⟩ := h1'.inv_bool Try.underlying4
  obtain ⟨top, packs⟩ := g
  have e : aggOf Try.prog 49 = true := by kernel_rfl
  have e' : aggOf Try.prog 4 = false := by kernel_rfl
  rw [e] at h2
  rw [e'] at h2'
  simp [packV, LGraph.enc] at h2 h2'
  subst h2 h2'
  exact c_lawBare kd (.mk top packs) ho

theorem bare_lifted (os : Os) (started : os.Started) (H : Type) (enc : TypeId × Value → H) :
    ReturnsInHanded {} Try.checked os 6 .any (Rows.fnExactBareSpec.pre6 enc Try.prog Try.f6 Rows.fnExactBareRow.domain false) (Rows.fnExactBareSpec.post enc Try.prog Try.f6 false true false false) := by
  refine returnsInHanded_of_change (C := Try.checked) Try.own started (by kernel_rfl) Try.func6
    (ChangeSpec.witness6 (enc := enc) (C := Try.checked) false ⟨#[], #[.agg #[.slice none 0 0, .slice none 0 0], .bool false], []⟩ 8 (by kernel_rfl) (by kernel_rfl) (by kernel_rfl) (by kernel_rfl)) ?_
  intro W base args ds gs before hval0 hW hcnd _
  have hval : ∀ (j : Nat) t v, Try.f6.params[j]? = some t → args[j]? = some v → Value.okWide Try.prog W .any base t v := hval0
  have hW' : DataW.Whole enc Try.prog Try.f6.params.toList Rows.fnExactBareSpec.vars false W args.toList ds gs before := hW
  refine row_of (ext_ok W) pol_ok (l := [49, 22, 9, 47, 77, 75, 89, 4]) (tb := 4) (by kernel_rfl) (by rw [Try.params6]; decide) rfl Try.kids (fun t e ht => Try.full t e ht) (by rw [Try.params6]; decide) hval hW' ?_ rfl Try.underlying4 (fun xs hx => ?_)
  · intro hg
    subst hg
    obtain ⟨p, q, hA, _⟩ := hW'
    rw [Try.params6] at hA
    obtain ⟨v0, v1, d0, d1, p0, p1, rfl, rfl, _, _⟩ := trodAll_two hA
    exact ⟨rfl, rfl, rfl⟩
  · rw [Try.params6] at hx
    exact bare_ev xs hx

theorem bare_holds : Rows.FnExactBareSaid :=
  OpenClaim.holds_of_wide 6 Try.f6 rfl rfl rfl rfl rfl rfl rfl ⟨rfl, rfl, rfl, rfl, rfl⟩ rfl rfl rfl rfl rfl (by kernel_rfl) Try.func6 (by kernel_rfl)
    (of_decide_eq_true (by kernel_rfl)) (by unfold Func.isWrapper; rw [if_neg (by decide +kernel)]; exact ⟨rfl, rfl⟩)
    (fun os started H enc _ => bare_lifted os started H enc)
end Go.Proofs.Ytcphjdfmjhijkaa

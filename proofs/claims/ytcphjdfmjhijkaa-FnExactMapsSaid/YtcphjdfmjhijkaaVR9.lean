/- The row of FnExactMaps. Conditions: none. -/
import Derived.Test.YtcphjdfmjhijkaaVI
namespace Go.Proofs.Ytcphjdfmjhijkaa
open Go.ChangeShapes Go.WideShapes Go.ChangeAt Go.RowKit E
set_option maxRecDepth 100000
set_option maxHeartbeats 40000000
set_option linter.unusedVariables false
set_option linter.unusedSimpArgs false
theorem maps_ev (xs : List V) (h : WTA Try.prog [22, 23] xs) : EV Try.prog pol (.call 3 xs []) = some (.call (.t (.bool true)) []) := by
  obtain ⟨cs, v, vs, rfl, h1, h2, h3⟩ := h.inv_cons
  obtain ⟨cs', v', vs', rfl, h1', h2', h3'⟩ := h3.inv_cons
  have := h3'.inv_nil
  subst this
  obtain ⟨es, rfl, hes, hel⟩ := h1.inv_list Try.underlying22
  obtain ⟨ks, rfl, hks⟩ := WT_strsT hel
  obtain ⟨ts, rfl, ht1, ht2⟩ := (WT_tree h1').2 rfl
  have k2 : Try.prog.cellsOf 9 = 1 := by kernel_rfl
  rw [k2] at h2
  have e : aggOf Try.prog 22 = false := by kernel_rfl
  have e' : aggOf Try.prog 23 = false := by kernel_rfl
  rw [e] at h2
  rw [e'] at h2'
  simp [packV] at h2 h2'
  subst h2 h2'
  rw [strs_len] at hes
  exact c_lawMaps ks ts hes hks ht1 ht2

theorem maps_lifted (os : Os) (started : os.Started) (H : Type) (enc : TypeId × Value → H) :
    ReturnsInHanded {} Try.checked os 3 .any (Rows.fnExactMapsSpec.pre6 enc Try.prog Try.f3 Rows.fnExactMapsRow.domain false) (Rows.fnExactMapsSpec.post enc Try.prog Try.f3 false true false false) := by
  refine returnsInHanded_of_change (C := Try.checked) Try.own started (by kernel_rfl) Try.func3
    (ChangeSpec.witness6 (enc := enc) (C := Try.checked) false ⟨#[], #[.slice none 0 0, .slice none 0 0], []⟩ 8 (by kernel_rfl) (by kernel_rfl) (by kernel_rfl) (by kernel_rfl)) ?_
  intro W base args ds gs before hval0 hW hcnd _
  have hval : ∀ (j : Nat) t v, Try.f3.params[j]? = some t → args[j]? = some v → Value.okWide Try.prog W .any base t v := hval0
  have hW' : DataW.Whole enc Try.prog Try.f3.params.toList Rows.fnExactMapsSpec.vars false W args.toList ds gs before := hW
  refine row_of (ext_ok W) pol_ok (l := [39, 23, 22, 3, 9, 4]) (tb := 4) (by kernel_rfl) (by rw [Try.params3]; decide) rfl Try.kids (fun t e ht => Try.full t e ht) (by rw [Try.params3]; decide) hval hW' ?_ rfl Try.underlying4 (fun xs hx => ?_)
  · intro hg
    subst hg
    obtain ⟨p, q, hA, _⟩ := hW'
    rw [Try.params3] at hA
    obtain ⟨v0, v1, d0, d1, p0, p1, rfl, rfl, _, _⟩ := trodAll_two hA
    exact ⟨rfl, rfl, rfl⟩
  · rw [Try.params3] at hx
    exact maps_ev xs hx

theorem maps_holds : Rows.FnExactMapsSaid :=
  OpenClaim.holds_of_wide 3 Try.f3 rfl rfl rfl rfl rfl rfl rfl ⟨rfl, rfl, rfl, rfl, rfl⟩ rfl rfl rfl rfl rfl (by kernel_rfl) Try.func3 (by kernel_rfl)
    (of_decide_eq_true (by kernel_rfl)) (by unfold Func.isWrapper; rw [if_neg (by decide +kernel)]; exact ⟨rfl, rfl⟩)
    (fun os started H enc _ => maps_lifted os started H enc)
end Go.Proofs.Ytcphjdfmjhijkaa

/- The row of FnExactKid. Conditions: none. -/
import Derived.Test.YtkpmachalipmpaaVI
namespace Go.Proofs.Ytkpmachalipmpaa
open Go.ChangeShapes Go.WideShapes Go.ChangeAt Go.RowKit E
set_option maxRecDepth 100000
set_option maxHeartbeats 40000000
set_option linter.unusedVariables false
set_option linter.unusedSimpArgs false
theorem kid_ev (xs : List V) (h : WTA Try.prog [39, 9] xs) : EV Try.prog pol (.call 4 xs []) = some (.call (.t (.bool true)) []) := by
  obtain ⟨cs, v, vs, rfl, h1, h2, h3⟩ := h.inv_cons
  obtain ⟨cs', v', vs', rfl, h1', h2', h3'⟩ := h3.inv_cons
  have := h3'.inv_nil
  subst this
  obtain ⟨tr, rfl, ho⟩ := (WT_tree h1).1 rfl
  obtain ⟨key, rfl, hko⟩ := h1'.inv_str Try.underlying9
  obtain ⟨k, n, s, ks, ts⟩ := tr
  have e : aggOf Try.prog 39 = true := by kernel_rfl
  have e' : aggOf Try.prog 9 = false := by kernel_rfl
  rw [e] at h2
  rw [e'] at h2'
  simp [packV, Tr.enc] at h2 h2'
  subst h2 h2'
  exact c_lawKid (.mk k n s ks ts) key ho hko

theorem kid_lifted (os : Os) (started : os.Started) (H : Type) (enc : TypeId × Value → H) :
    ReturnsInHanded {} Try.checked os 4 .any (Rows.fnExactKidSpec.pre6 enc Try.prog Try.f4 Rows.fnExactKidRow.domain false) (Rows.fnExactKidSpec.post enc Try.prog Try.f4 false true false false) := by
  refine returnsInHanded_of_change (C := Try.checked) Try.own started (by kernel_rfl) Try.func4
    (ChangeSpec.witness6 (enc := enc) (C := Try.checked) false ⟨#[], #[.agg #[.int .i64 0, .int .i64 0, .string ⟨#[]⟩, .slice none 0 0, .slice none 0 0], .string ⟨#[]⟩], []⟩ 8 (by kernel_rfl) (by kernel_rfl) (by kernel_rfl) (by kernel_rfl)) ?_
  intro W base args ds gs before hval0 hW hcnd _
  have hval : ∀ (j : Nat) t v, Try.f4.params[j]? = some t → args[j]? = some v → Value.okWide Try.prog W .any base t v := hval0
  have hW' : DataW.Whole enc Try.prog Try.f4.params.toList Rows.fnExactKidSpec.vars false W args.toList ds gs before := hW
  refine row_of (ext_ok W) pol_ok (l := [39, 23, 22, 3, 9, 4]) (tb := 4) (by kernel_rfl) (by rw [Try.params4]; decide) rfl Try.kids (fun t e ht => Try.full t e ht) (by rw [Try.params4]; decide) hval hW' ?_ rfl Try.underlying4 (fun xs hx => ?_)
  · intro hg
    subst hg
    obtain ⟨p, q, hA, _⟩ := hW'
    rw [Try.params4] at hA
    obtain ⟨v0, v1, d0, d1, p0, p1, rfl, rfl, _, _⟩ := trodAll_two hA
    exact ⟨rfl, rfl, rfl⟩
  · rw [Try.params4] at hx
    exact kid_ev xs hx

theorem kid_holds : Rows.FnExactKidSaid :=
  OpenClaim.holds_of_wide 4 Try.f4 rfl rfl rfl rfl rfl rfl rfl ⟨rfl, rfl, rfl, rfl, rfl⟩ rfl rfl rfl rfl rfl (by kernel_rfl) Try.func4 (by kernel_rfl)
    (of_decide_eq_true (by kernel_rfl)) (by unfold Func.isWrapper; rw [if_neg (by decide +kernel)]; exact ⟨rfl, rfl⟩)
    (fun os started H enc _ => kid_lifted os started H enc)
end Go.Proofs.Ytkpmachalipmpaa

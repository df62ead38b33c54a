/- The row of FnExactChangeText. Conditions: none. -/
import Derived.Test.YtpfcdafpfgcjlaaC1
namespace Go.Proofs.Ytpfcdafpfgcjlaa
open Go.ChangeShapes Go.WideShapes Go.ChangeAt Go.RowKit E
set_option maxRecDepth 100000

theorem changeText_ev (xs : List V) (h : WTA Try.prog [23] xs) : EV Try.prog pol (.call 3 xs []) = some (.call (.t (.bool true)) []) := by
  obtain ⟨cs, v, vs, rfl, h1, h2, h3⟩ := h.inv_cons
  have := h3.inv_nil
  subst this
  obtain ⟨k, a, b, c, rfl, ha, hb, hc⟩ := WT23 h1
  have e : aggOf Try.prog 23 = true := by kernel_rfl
  rw [e] at h2
  simp [packV] at h2
  subst h2
  exact c_law k a b c ha hb hc

theorem changeText_lifted (os : Os) (started : os.Started) (H : Type) (enc : TypeId × Value → H) :
    ReturnsInHanded {} Try.checked os 3 .any (Rows.fnExactChangeTextSpec.pre6 enc Try.prog Try.f3 Rows.fnExactChangeTextRow.domain false) (Rows.fnExactChangeTextSpec.post enc Try.prog Try.f3 false true false false) := by
  refine returnsInHanded_of_change (C := Try.checked) Try.own started (by kernel_rfl) Try.func3
    (ChangeSpec.witness6 (enc := enc) (C := Try.checked) false ⟨#[], #[.agg #[.int .i64 0, .string ⟨#[]⟩, .string ⟨#[]⟩, .string ⟨#[]⟩]], []⟩ 8 (by kernel_rfl) (by kernel_rfl) (by kernel_rfl) (by kernel_rfl)) ?_
  intro W base args ds gs before hval0 hW hcnd _
  have hval : ∀ (j : Nat) t v, Try.f3.params[j]? = some t → args[j]? = some v → Value.okWide Try.prog W .any base t v := hval0
  have hW' : DataW.Whole enc Try.prog Try.f3.params.toList Rows.fnExactChangeTextSpec.vars false W args.toList ds gs before := hW
  refine row_of pol_ok (l := [23, 3, 9]) (tb := 4) (by kernel_rfl) (by rw [Try.params3]; decide) rfl Try.kids (fun t e ht => Try.full t e ht) (by rw [Try.params3]; decide) hval hW' ?_ rfl Try.underlying4 (fun xs hx => ?_)
  · intro hg
    subst hg
    obtain ⟨p, q, hA, _⟩ := hW'
    rw [Try.params3] at hA
    obtain ⟨v0, d0, rfl, rfl, _⟩ := trodAll_one hA
    exact ⟨rfl, rfl, rfl⟩
  · rw [Try.params3] at hx
    exact changeText_ev xs hx

theorem changeText_holds : Rows.FnExactChangeTextSaid :=
  OpenClaim.holds_of_wide 3 Try.f3 rfl rfl rfl rfl rfl rfl rfl ⟨rfl, rfl, rfl, rfl, rfl⟩ rfl rfl rfl rfl rfl (by kernel_rfl) Try.func3 (by kernel_rfl)
    (of_decide_eq_true (by kernel_rfl)) (by unfold Func.isWrapper; rw [if_neg (by decide +kernel)]; exact ⟨rfl, rfl⟩)
    (fun os started H enc _ => changeText_lifted os started H enc)
#print axioms changeText_holds
end Go.Proofs.Ytpfcdafpfgcjlaa

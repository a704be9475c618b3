/-
  SpansAlgebra: for all lists the call returns true, and its arguments read as they did. No conditions.
-/
import Derived.Test.YtbfgbkblblnbhaaSpansAlgebraLaw
import Derived.Test.YtbfgbkblblnbhaaSOpen
namespace Go.Proofs.Ytbfgbkblblnbhaa
open Go.RowKit Go.Mine Go.ChangeShapes Go.WideShapes Go.ChangeAt

set_option maxRecDepth 100000 in
theorem spansAlgebra_lifted (os : Os) (started : os.Started) (H : Type) (enc : TypeId × Value → H) :
    ReturnsInHanded {} Try.checked os 12 .any (Rows.spansAlgebraSpec.pre6 enc Try.prog Try.f12 Rows.spansAlgebraRow.domain false) (Rows.spansAlgebraSpec.post enc Try.prog Try.f12 false true false false) := by
  refine returnsInHanded_of_change (C := Try.checked) Try.own started (by kernel_rfl) Try.func12
    (ChangeSpec.witness6 (enc := enc) (C := Try.checked) false ⟨#[], #[.slice none 0 0, .slice none 0 0, .slice none 0 0], []⟩ 8 (by kernel_rfl) (by kernel_rfl) (by kernel_rfl) (by kernel_rfl)) ?_
  intro W base args ds gs before hval0 hW hcnd _
  have hval : ∀ (j : Nat) t v, Try.f12.params[j]? = some t → args[j]? = some v → Value.okWide Try.prog W .any base t v := hval0
  have hW' := hW
  obtain ⟨p, q, hA0, hV, rfl, hfz, hnd⟩ := hW
  have hA : DataW.TrodAll enc Try.prog W 0 (fun _ => true) true Try.f12.params.toList args.toList ds p := hA0
  have hAk := hA
  rw [Try.params12] at hA hval
  obtain ⟨v0, v1, v2, d0, d1, d2, p0, p1, p2, rfl, rfl, rfl, h0, h1, h2⟩ := trodAll_three hA
  obtain ⟨rfl, rfl⟩ := trodVars_none hV
  obtain ⟨A, c, l, rfl, hS⟩ := open_spans (hval 0 30 v0 rfl rfl) h0
  obtain ⟨A2, c2, l2, rfl, hS2⟩ := open_spans (hval 1 30 v1 rfl rfl) h1
  obtain ⟨A3, c3, l3, rfl, hS3⟩ := open_spans (hval 2 30 v2 rfl rfl) h2
  simp only [List.append_nil] at hW' hAk
  refine (spansAlgebra_law A A2 A3 c c2 c3 l l2 l3 W hS hS2 hS3).mono fun e W' ⟨he, hb⟩ => ?_
  subst he
  exact ⟨_, rfl, post_law (tb := 4) Try.laidOut hW' hAk rfl rfl rfl Try.underlying4 (by rw [Try.params12]; decide +kernel) hb⟩

theorem spansAlgebra_holds : Rows.SpansAlgebraSaid :=
  OpenClaim.holds_of_wide 12 Try.f12 rfl rfl rfl rfl rfl rfl rfl ⟨rfl, rfl, rfl, rfl, rfl⟩ rfl rfl rfl rfl rfl (by kernel_rfl) Try.func12 (by kernel_rfl)
    (of_decide_eq_true (by kernel_rfl)) (by unfold Func.isWrapper; rw [if_neg (of_decide_eq_false (by kernel_rfl))]; exact ⟨rfl, rfl⟩)
    (fun os started H enc _ => spansAlgebra_lifted os started H enc)
end Go.Proofs.Ytbfgbkblblnbhaa

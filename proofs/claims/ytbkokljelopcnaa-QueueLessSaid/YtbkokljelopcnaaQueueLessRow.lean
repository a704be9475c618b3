/-
  QueueLess: for all jobs and numbers the call returns true, and its arguments read as they did. No conditions.
-/
import Derived.Test.YtbkokljelopcnaaQueueLessLaw
import Derived.Test.YtbkokljelopcnaaJU32
namespace Go.Proofs.Ytbkokljelopcnaa
open Go.RowKit Go.Mine Go.ChangeShapes Go.WideShapes Go.ChangeAt

set_option maxRecDepth 100000 in
theorem queueLess_lifted (os : Os) (started : os.Started) (H : Type) (enc : TypeId × Value → H) :
    ReturnsInHanded {} Try.checked os 5 .any (Rows.queueLessSpec.pre6 enc Try.prog Try.f5 Rows.queueLessRow.domain false) (Rows.queueLessSpec.post enc Try.prog Try.f5 false true false false) := by
  refine returnsInHanded_of_change (C := Try.checked) Try.own started (by kernel_rfl) Try.func5
    (ChangeSpec.witness6 (enc := enc) (C := Try.checked) false ⟨#[], #[.slice none 0 0, .int .u8 0, .int .u32 0, .int .u32 0, .int .u32 0], []⟩ 8 (by kernel_rfl) (by kernel_rfl) (by kernel_rfl) (by kernel_rfl)) ?_
  intro W base args ds gs before hval0 hW hcnd _
  have hval : ∀ (j : Nat) t v, Try.f5.params[j]? = some t → args[j]? = some v → Value.okWide Try.prog W .any base t v := hval0
  have hW' := hW
  obtain ⟨p, q, hA0, hV, rfl, hfz, hnd⟩ := hW
  have hA : DataW.TrodAll enc Try.prog W 0 (fun _ => true) true Try.f5.params.toList args.toList ds p := hA0
  have hAk := hA
  rw [Try.params5] at hA hval
  obtain ⟨v0, v1, v2, v3, v4, d0, d1, d2, d3, d4, p0, p1, p2, p3, p4, rfl, rfl, rfl, h0, h1, h2, h3, h4⟩ := trodAll_five hA
  obtain ⟨rfl, rfl⟩ := trodVars_none hV
  obtain ⟨A, c, l, rfl, hS, hI⟩ := open_jbs (hval 0 22 v0 rfl rfl) h0
  obtain ⟨at_, rfl, rfl, rfl, wat_⟩ := open_int Try.underlying5 (hval 1 5 v1 rfl rfl) h1
  obtain ⟨ea, rfl, rfl, rfl, wea⟩ := open_int Try.underlying42 (hval 2 42 v2 rfl rfl) h2
  obtain ⟨la, rfl, rfl, rfl, wla⟩ := open_int Try.underlying42 (hval 3 42 v3 rfl rfl) h3
  obtain ⟨by_, rfl, rfl, rfl, wby_⟩ := open_int Try.underlying42 (hval 4 42 v4 rfl rfl) h4
  obtain ⟨at_, rfl, hat⟩ := u8_nat wat_
  simp only [List.append_nil] at hW' hAk
  refine (queueLess_law A c l at_ ea la by_ W hS hat (u32_b wea) (u32_b wla) (u32_b wby_)).mono fun e W' ⟨he, hb⟩ => ?_
  subst he
  exact ⟨_, rfl, post_law (tb := 4) Try.laidOut hW' hAk rfl rfl rfl Try.underlying4 (by rw [Try.params5]; decide +kernel) hb⟩

theorem queueLess_holds : Rows.QueueLessSaid :=
  OpenClaim.holds_of_wide 5 Try.f5 rfl rfl rfl rfl rfl rfl rfl ⟨rfl, rfl, rfl, rfl, rfl⟩ rfl rfl rfl rfl rfl (by kernel_rfl) Try.func5 (by kernel_rfl)
    (of_decide_eq_true (by kernel_rfl)) (by unfold Func.isWrapper; rw [if_neg (of_decide_eq_false (by kernel_rfl))]; exact ⟨rfl, rfl⟩)
    (fun os started H enc _ => queueLess_lifted os started H enc)
end Go.Proofs.Ytbkokljelopcnaa

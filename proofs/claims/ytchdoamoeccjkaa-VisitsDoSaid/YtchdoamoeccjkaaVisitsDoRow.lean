/-
  VisitsDo: for all visits and numbers the call returns true, and its arguments read as they did. No conditions.
-/
import Derived.Test.YtchdoamoeccjkaaVisitsDoLaw
import Derived.Test.YtchdoamoeccjkaaVOpen
import Derived.Test.YtchdoamoeccjkaaSized
namespace Go.Proofs.Ytchdoamoeccjkaa
open Go.RowKit Go.Mine Go.ChangeShapes Go.WideShapes Go.ChangeAt

set_option maxRecDepth 100000 in
theorem visitsDo_lifted (os : Os) (started : os.Started) (H : Type) (enc : TypeId × Value → H) :
    ReturnsInHanded {} Try.checked os 6 .any (Rows.visitsDoSpec.pre6 enc Try.prog Try.f6 Rows.visitsDoRow.domain false) (Rows.visitsDoSpec.post enc Try.prog Try.f6 false true false false) := by
  refine returnsInHanded_of_change_sized (C := Try.checked) Try.own started (by kernel_rfl) Try.func6
    (ChangeSpec.witness6 (enc := enc) (C := Try.checked) false ⟨#[], #[.slice none 0 0, .agg #[.int .i64 0, .int .i64 0, .int .i64 0, .int .i64 0], .int .i64 0], []⟩ 8 (by kernel_rfl) (by kernel_rfl) (by kernel_rfl) (by kernel_rfl)) ?_
  intro W base args ds gs before hval0 hW hcnd hsz0 _
  have hval : ∀ (j : Nat) t v, Try.f6.params[j]? = some t → args[j]? = some v → Value.okWide Try.prog W .any base t v := hval0
  have hW' := hW
  obtain ⟨p, q, hA0, hV, rfl, hfz, hnd⟩ := hW
  have hA : DataW.TrodAll enc Try.prog W 0 (fun _ => true) true Try.f6.params.toList args.toList ds p := hA0
  have hAk := hA
  have hsz : (DataW.weightsEach Try.prog (Try.f6.params.toList ++ Rows.visitsDoSpec.plain.varTypes Try.prog) (ds ++ gs)).all (· ≤ reachBytes) = true := hsz0
  rw [Try.params6] at hA hval hsz
  obtain ⟨v0, v1, v2, d0, d1, d2, p0, p1, p2, rfl, rfl, rfl, h0, h1, h2⟩ := trodAll_three hA
  obtain ⟨rfl, rfl⟩ := trodVars_none hV
  obtain ⟨A, c, l, rfl, hS, hI⟩ := open_visits (hval 0 22 v0 rfl rfl) h0
  obtain ⟨x, rfl, hx⟩ := open_visit (hval 1 40 v1 rfl rfl) h1
  obtain ⟨other, rfl, rfl, rfl, wother⟩ := open_int Try.underlying3 (hval 2 3 v2 rfl rfl) h2
  have hbd : l.length * 32 ≤ 140737488351232 := open_bound Try.underlying22 h0 (fun el sp hd => by have := sized_slice hsz (j := 0) (t := 22) (e := 40) (elems := el) (spare := sp) rfl (by rw [hd]; rfl) Try.underlying22; rw [show Try.prog.bytesOf 40 = 32 by kernel_rfl] at this; exact this)
  simp only [List.append_nil] at hW' hAk
  refine (visitsDo_law A c l x other W hS hI hx hbd).mono fun e W' ⟨he, hb⟩ => ?_
  subst he
  exact ⟨_, rfl, post_law (tb := 4) Try.laidOut hW' hAk rfl rfl rfl Try.underlying4 (by rw [Try.params6]; decide +kernel) hb⟩

theorem visitsDo_holds : Rows.VisitsDoSaid :=
  OpenClaim.holds_of_wide 6 Try.f6 rfl rfl rfl rfl rfl rfl rfl ⟨rfl, rfl, rfl, rfl, rfl⟩ rfl rfl rfl rfl rfl (by kernel_rfl) Try.func6 (by kernel_rfl)
    (of_decide_eq_true (by kernel_rfl)) (by unfold Func.isWrapper; rw [if_neg (of_decide_eq_false (by kernel_rfl))]; exact ⟨rfl, rfl⟩)
    (fun os started H enc _ => visitsDo_lifted os started H enc)
end Go.Proofs.Ytchdoamoeccjkaa

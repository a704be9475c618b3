/-
  DeadlinesMore: for all budgets, trades and numbers the call returns true, and its arguments read as they did. No conditions.
-/
import Derived.Test.YtklndmnhhakmiaaDeadlinesMoreLaw
import Derived.Test.YtklndmnhhakmiaaSized
namespace Go.Proofs.Ytklndmnhhakmiaa
open Go.RowKit Go.Mine Go.ChangeShapes Go.WideShapes Go.ChangeAt

set_option maxRecDepth 100000 in
theorem deadlinesMore_lifted (os : Os) (started : os.Started) (H : Type) (enc : TypeId × Value → H) :
    ReturnsInHanded {} Try.checked os 11 .any (Rows.deadlinesMoreSpec.pre6 enc Try.prog Try.f11 Rows.deadlinesMoreRow.domain false) (Rows.deadlinesMoreSpec.post enc Try.prog Try.f11 false true false false) := by
  refine returnsInHanded_of_change_sized (C := Try.checked) Try.own started (by kernel_rfl) Try.func11
    (ChangeSpec.witness6 (enc := enc) (C := Try.checked) false ⟨#[], #[.slice none 0 0, .slice none 0 0, .agg #[.int .i64 0, .int .i64 0, .int .i64 0, .int .i64 0, .int .i64 0, .int .i64 0, .int .i64 0], .int .i64 0, .int .i64 0], []⟩ 8 (by kernel_rfl) (by kernel_rfl) (by kernel_rfl) (by kernel_rfl)) ?_
  intro W base args ds gs before hval0 hW hcnd hsz0 _
  have hval : ∀ (j : Nat) t v, Try.f11.params[j]? = some t → args[j]? = some v → Value.okWide Try.prog W .any base t v := hval0
  have hW' := hW
  obtain ⟨p, q, hA0, hV, rfl, hfz, hnd⟩ := hW
  have hA : DataW.TrodAll enc Try.prog W 0 (fun _ => true) true Try.f11.params.toList args.toList ds p := hA0
  have hAk := hA
  have hsz : (DataW.weightsEach Try.prog (Try.f11.params.toList ++ Rows.deadlinesMoreSpec.plain.varTypes Try.prog) (ds ++ gs)).all (· ≤ reachBytes) = true := hsz0
  rw [Try.params11] at hA hval hsz
  obtain ⟨v0, v1, v2, v3, v4, d0, d1, d2, d3, d4, p0, p1, p2, p3, p4, rfl, rfl, rfl, h0, h1, h2, h3, h4⟩ := trodAll_five hA
  obtain ⟨rfl, rfl⟩ := trodVars_none hV
  obtain ⟨A, c, b, rfl, hS, hI⟩ := open_bus (hval 0 22 v0 rfl rfl) h0
  obtain ⟨B, d, l, rfl, hT, hJ⟩ := open_trs (hval 1 23 v1 rfl rfl) h1
  obtain ⟨x, rfl, hx⟩ := open_tr (hval 2 40 v2 rfl rfl) h2
  obtain ⟨u, rfl, rfl, rfl, _⟩ := open_int Try.underlying3 (hval 3 3 v3 rfl rfl) h3
  obtain ⟨k, rfl, rfl, rfl, _⟩ := open_int Try.underlying3 (hval 4 3 v4 rfl rfl) h4
  have hbd : l.length * 56 ≤ 140737488351232 := open_bound Try.underlying23 h1 (fun el sp hd => by have := sized_slice hsz (j := 1) (t := 23) (e := 40) (elems := el) (spare := sp) rfl (by rw [hd]; rfl) Try.underlying23; rw [show Try.prog.bytesOf 40 = 56 by kernel_rfl] at this; exact this)
  simp only [List.append_nil] at hW' hAk
  refine (deadlinesMore_law A c b B d l x u k W hS hT hI hJ hx hbd).mono fun e W' ⟨he, hb⟩ => ?_
  subst he
  exact ⟨_, rfl, post_law (tb := 4) Try.laidOut hW' hAk rfl rfl rfl Try.underlying4 (by rw [Try.params11]; decide +kernel) hb⟩

theorem deadlinesMore_holds : Rows.DeadlinesMoreSaid :=
  OpenClaim.holds_of_wide 11 Try.f11 rfl rfl rfl rfl rfl rfl rfl ⟨rfl, rfl, rfl, rfl, rfl⟩ rfl rfl rfl rfl rfl (by kernel_rfl) Try.func11 (by kernel_rfl)
    (of_decide_eq_true (by kernel_rfl)) (by unfold Func.isWrapper; rw [if_neg (of_decide_eq_false (by kernel_rfl))]; exact ⟨rfl, rfl⟩)
    (fun os started H enc _ => deadlinesMore_lifted os started H enc)
end Go.Proofs.Ytklndmnhhakmiaa

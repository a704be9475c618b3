/-
  TopTrades: for all budgets, trades, stages, times, demands and needs the call returns true, and its arguments read as they did. No conditions.
-/
import Derived.Test.YtnngemgfochodaaGreatXLaw
namespace Go.Proofs.YtnngemgfochodaaGreat
open Go.RowKit Go.Mine Go.ChangeShapes Go.WideShapes Go.ChangeAt

set_option maxRecDepth 100000 in
theorem topTrades_lifted (os : Os) (started : os.Started) (H : Type) (enc : TypeId × Value → H) :
    ReturnsInHanded {} Tryz.checked os 3 .any (Rows.topTradesSpec.pre6 enc Tryz.prog Tryz.f3 Rows.topTradesRow.domain false) (Rows.topTradesSpec.post enc Tryz.prog Tryz.f3 false true false false) := by
  refine returnsInHanded_of_change (C := Tryz.checked) Tryz.own started (by kernel_rfl) Tryz.func3
    (ChangeSpec.witness6 (enc := enc) (C := Tryz.checked) false ⟨#[], #[.slice none 0 0, .slice none 0 0, .int .u8 0, .int .i64 0, .int .i64 0, .slice none 0 0, .slice none 0 0], []⟩ 8 (by kernel_rfl) (by kernel_rfl) (by kernel_rfl) (by kernel_rfl)) ?_
  intro W base args ds gs before hval0 hW hcnd _
  have hval : ∀ (j : Nat) t v, Tryz.f3.params[j]? = some t → args[j]? = some v → Value.okWide Tryz.prog W .any base t v := hval0
  have hW' := hW
  obtain ⟨p, q, hA0, hV, rfl, hfz, hnd⟩ := hW
  have hA : DataW.TrodAll enc Tryz.prog W 0 (fun _ => true) true Tryz.f3.params.toList args.toList ds p := hA0
  have hAk := hA
  rw [Tryz.params3] at hA hval
  obtain ⟨v0, v1, v2, v3, v4, v5, v6, d0, d1, d2, d3, d4, d5, d6, p0, p1, p2, p3, p4, p5, p6, rfl, rfl, rfl, h0, h1, h2, h3, h4, h5, h6⟩ := trodAll_seven hA
  obtain ⟨rfl, rfl⟩ := trodVars_none hV
  obtain ⟨A, c, b, rfl, hS, hI⟩ := open_bus (hval 0 22 v0 rfl rfl) h0
  obtain ⟨B, d, l, rfl, hT, hJ⟩ := open_trs (hval 1 23 v1 rfl rfl) h1
  obtain ⟨st, rfl, rfl, rfl, wst⟩ := open_int Tryz.underlying5 (hval 2 5 v2 rfl rfl) h2
  obtain ⟨at_, rfl, rfl, rfl, _⟩ := open_int Tryz.underlying3 (hval 3 3 v3 rfl rfl) h3
  obtain ⟨known, rfl, rfl, rfl, _⟩ := open_int Tryz.underlying3 (hval 4 3 v4 rfl rfl) h4
  obtain ⟨C, f, ds_, rfl, hC, hK⟩ := open_ics (hval 5 24 v5 rfl rfl) h5
  obtain ⟨D, g, ns_, rfl, hD, hL⟩ := open_ics (hval 6 24 v6 rfl rfl) h6
  obtain ⟨st, rfl, hst⟩ := u8_nat wst
  simp only [List.append_nil] at hW' hAk
  refine (topTrades_law A c b B d l st at_ known C f ds_ D g ns_ W hS hT hC hD hst).mono fun e W' ⟨he, hb⟩ => ?_
  subst he
  exact ⟨_, rfl, post_law (tb := 4) Tryz.laidOut hW' hAk rfl rfl rfl Tryz.underlying4 (by rw [Tryz.params3]; decide +kernel) hb⟩

theorem topTrades_holds : Rows.TopTradesSaid :=
  OpenClaim.holds_of_wide 3 Tryz.f3 rfl rfl rfl rfl rfl rfl rfl ⟨rfl, rfl, rfl, rfl, rfl⟩ rfl rfl rfl rfl rfl (by kernel_rfl) Tryz.func3 (by kernel_rfl)
    (of_decide_eq_true (by kernel_rfl)) (by unfold Func.isWrapper; rw [if_neg (of_decide_eq_false (by kernel_rfl))]; exact ⟨rfl, rfl⟩)
    (fun os started H enc _ => topTrades_lifted os started H enc)
end Go.Proofs.YtnngemgfochodaaGreat

/-
  HealthSpec: for all beats and numbers the call returns true, and its arguments read as they did. No conditions.
-/
import Derived.Test.YtbfgbkblblnbhaaHSane2
import Derived.Test.YtbfgbkblblnbhaaHHeard4
import Derived.Test.YtbfgbkblblnbhaaLift
namespace Go.Proofs.Ytbfgbkblblnbhaa
open Go.RowKit Go.Mine Go.Mine.H Go.ChangeShapes Go.WideShapes Go.ChangeAt

set_option maxHeartbeats 1000000 in
theorem healthSpec_law (A : Option Addr) (c : Nat) (l : List Beat) (n q t : Int) (w : World) (hS : Sl bc 2 w A c l) :
    Calls Try.prog 3 #[.slice A l.length c, .int .i64 n, .int .i64 q, .int .i64 t] w fun e w' => e = .returned (.bool true) ∧ Below w.heap.size w w' := by
  have K17 := hide (fun w (hS : Sl bc 2 w A c l) => Heard_any A c l n q t w hS)
  have K18 := hide (fun w (hS : Sl bc 2 w A c l) => refHeard_any A c l n q t w hS)
  have K19 := hide (fun w (hS : Sl bc 2 w A c l) => check_any A c l w hS)
  have K20 := hide (fun w (hS : Sl bc 2 w A c l) => refCheck_any A c l w hS)
  unfold heardV at K17 K18
  generalize (heardR l n q t).1 = hb at K17 K18
  generalize (heardR l n q t).2 = he at K17 K18
  generalize chk l = k at K19 K20
  have K15 := hide sane_any
  by_cases hf : fewB l = true
  · have KF := hide (fun w (hS : Sl bc 2 w A c l) => few_any A c l w hS)
    rw [hf] at KF
    clear hf
    go_enter Try.func3, Try.ntmps3
    go_wp2_with fail
    refine (K15.out w).mono ?_
    rintro e w1 ⟨rfl, hb1⟩
    have s1 := hS.bel hb1
    have hN1 := hb1.size
    go_wp2_with fail
    refine (KF.out w1 s1).mono ?_
    rintro e w1' ⟨rfl, rfl⟩
    go_wp2_with fail
    refine (K17.out w1 s1).mono ?_
    rintro e w2 ⟨rfl, hb2⟩
    have s2 := s1.bel hb2
    have hB2 := bstep hb1 hN1 hb2
    have hN2 := hB2.size
    clear hb2
    go_wp2_with fail
    refine (K18.out w2 s2).mono ?_
    rintro e w3 ⟨rfl, hb3⟩
    have s3 := s2.bel hb3
    have hB3 := bstep hB2 hN2 hb3
    have hN3 := hB3.size
    clear hb3
    go_wp2_with fail
    refine (K19.out w3 s3).mono ?_
    rintro e w4 ⟨rfl, hb4⟩
    have s4 := s3.bel hb4
    have hB4 := bstep hB3 hN3 hb4
    have hN4 := hB4.size
    clear hb4
    go_wp2_with fail
    refine (K20.out w4 s4).mono ?_
    rintro e w5 ⟨rfl, hb5⟩
    have hB5 := bstep hB4 hN4 hb5
    clear hb5
    go_wp2
    go_ret
    exact ⟨rfl, hB5⟩
  · have hf' : fewB l = false := by simpa using hf
    have KF := hide (fun w (hS : Sl bc 2 w A c l) => few_any A c l w hS)
    rw [hf'] at KF
    clear hf hf'
    go_enter Try.func3, Try.ntmps3
    go_wp2_with fail
    refine (K15.out w).mono ?_
    rintro e w1 ⟨rfl, hb1⟩
    have s1 := hS.bel hb1
    go_wp2_with fail
    refine (KF.out w1 s1).mono ?_
    rintro e w1' ⟨rfl, rfl⟩
    go_wp2
    go_ret
    exact ⟨rfl, hb1⟩

theorem Try.own : ownKnob Try.prog.godebug = none := by kernel_rfl
theorem Try.laidOut : laidOutB Try.prog = true := by kernel_rfl
def toBeat (x : List Int) : Beat := (x.getD 0 0, x.getD 1 0)

theorem open_beats {H : Type} {enc : TypeId × Value → H} {w : World} {base b0 : Nat} {held : Bool} {r : Reach} {v : Value} {d : DataW H} {ps : List MemPlace}
    (hv : Value.okWide Try.prog w r b0 22 v) (h : DataW.Trod enc Try.prog w base (fun _ => true) held 22 v d ps) :
    ∃ (A : Option Addr) (c : Nat) (l : List Beat), v = .slice A l.length c ∧ Sl bc 2 w A c l := by
  obtain ⟨A, c, l, rfl, hS, hl⟩ := open_sl (fs := (match Try.prog.underlying 41 with | some (.struct fs) => fs | _ => #[])) Try.underlying22 (by kernel_rfl) (by kernel_rfl) (by kernel_rfl) (by decide +kernel) (by kernel_rfl) hv h
  have h2 : (match Try.prog.underlying 41 with | some (.struct fs) => fs | _ => #[]).size = 2 := by kernel_rfl
  rw [h2] at hS hl
  refine ⟨A, c, l.map toBeat, by simp, hS.as toBeat (fun x hx => ?_)⟩
  obtain ⟨a, b, rfl⟩ : ∃ a b, x = [a, b] := by
    have := (hl x hx).1
    match x, this with
    | [a, b], _ => exact ⟨a, b, rfl⟩
  rfl

set_option maxRecDepth 100000 in
theorem healthSpec_lifted (os : Os) (started : os.Started) (H : Type) (enc : TypeId × Value → H) :
    ReturnsInHanded {} Try.checked os 3 .any (Rows.healthSpecSpec.pre6 enc Try.prog Try.f3 Rows.healthSpecRow.domain false) (Rows.healthSpecSpec.post enc Try.prog Try.f3 false true false false) := by
  refine returnsInHanded_of_change (C := Try.checked) Try.own started (by kernel_rfl) Try.func3
    (ChangeSpec.witness6 (enc := enc) (C := Try.checked) false ⟨#[], #[.slice none 0 0, .int .i64 0, .int .i64 0, .int .i64 0], []⟩ 8 (by kernel_rfl) (by kernel_rfl) (by kernel_rfl) (by kernel_rfl)) ?_
  intro W base args ds gs before hval0 hW hcnd _
  have hval : ∀ (j : Nat) t v, Try.f3.params[j]? = some t → args[j]? = some v → Value.okWide Try.prog W .any base t v := hval0
  have hW' := hW
  obtain ⟨p, q, hA0, hV, rfl, hfz, hnd⟩ := hW
  have hA : DataW.TrodAll enc Try.prog W 0 (fun _ => true) true Try.f3.params.toList args.toList ds p := hA0
  have hAk := hA
  rw [Try.params3] at hA hval
  obtain ⟨v0, v1, v2, v3, d0, d1, d2, d3, p0, p1, p2, p3, rfl, rfl, rfl, h0, h1, h2, h3⟩ := trodAll_four hA
  obtain ⟨rfl, rfl⟩ := trodVars_none hV
  obtain ⟨A, c, l, rfl, hS⟩ := open_beats (hval 0 22 v0 rfl rfl) h0
  obtain ⟨a1, rfl, rfl, rfl, wa1⟩ := open_int Try.underlying3 (hval 1 3 v1 rfl rfl) h1
  obtain ⟨a2, rfl, rfl, rfl, wa2⟩ := open_int Try.underlying3 (hval 2 3 v2 rfl rfl) h2
  obtain ⟨a3, rfl, rfl, rfl, wa3⟩ := open_int Try.underlying3 (hval 3 3 v3 rfl rfl) h3
  simp only [List.append_nil] at hW' hAk
  refine (healthSpec_law A c l a1 a2 a3 W hS).mono fun e W' ⟨he, hb⟩ => ?_
  subst he
  exact ⟨_, rfl, post_law (tb := 4) Try.laidOut hW' hAk rfl rfl rfl Try.underlying4 (by rw [Try.params3]; decide +kernel) hb⟩

theorem healthSpec_holds : Rows.HealthSpecSaid :=
  OpenClaim.holds_of_wide 3 Try.f3 rfl rfl rfl rfl rfl rfl rfl ⟨rfl, rfl, rfl, rfl, rfl⟩ rfl rfl rfl rfl rfl (by kernel_rfl) Try.func3 (by kernel_rfl)
    (of_decide_eq_true (by kernel_rfl)) (by unfold Func.isWrapper; rw [if_neg (of_decide_eq_false (by kernel_rfl))]; exact ⟨rfl, rfl⟩)
    (fun os started H enc _ => healthSpec_lifted os started H enc)
end Go.Proofs.Ytbfgbkblblnbhaa

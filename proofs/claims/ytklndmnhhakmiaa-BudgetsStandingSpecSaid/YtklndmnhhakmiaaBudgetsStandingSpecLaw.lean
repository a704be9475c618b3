/-
  BudgetsStandingSpec, walked.
-/
import Derived.Test.YtklndmnhhakmiaaBM6
namespace Go.Proofs.Ytklndmnhhakmiaa
open Go.RowKit Go.Mine Go.Mine.B
attribute [local go_sem] Oper.semAt_some
set_option maxRecDepth 100000 in
set_option maxHeartbeats 4000000 in
theorem budgetsStandingSpec_law (A : Option Addr) (c : Nat) (b : List Bu) (B : Option Addr) (d : Nat) (l : List Tr) (at_ known : Int) (w : World) (hS : Sl buC 5 w A c b) (hT : Sl trC 7 w B d l) (hI : ∀ x ∈ b, BuS x) (hJ : ∀ x ∈ l, TrS x) :
    Calls Try.prog 4 #[.slice A b.length c, .slice B l.length d, .int .i64 at_, .int .i64 known] w fun e w' => e = .returned (.bool true) ∧ Below w.heap.size w w' := by
  have KS := hide (sane14 w)
  have KF := hide (fun w => few15 A B c d b l w)
  have K3 := hide (fun W (h : Below w.heap.size w W) => standing20 A c b B d l at_ known W (hS.bel h) (hT.bel h) (BuS.all hI) (TrS.all hJ))
  have K4 := hide (fun W (h : Below w.heap.size w W) => standing21 A c b B d l at_ known W (hS.bel h) (hT.bel h))
  generalize fewB b l = r at *
  generalize standL b l at_ known = L at *
  generalize standE b l at_ known = E at *
  have K5 := hide (fun A9 c9 A8 c8 w (h1 : Sl buC 5 w A9 c9 L) (h2 : Sl buC 5 w A8 c8 L) => same_lit h1 h2 L.length rfl)
  clear hS hT
  cases r
  all_goals
    go_enter Try.func4, Try.ntmps4
    go_wp2_with fail
    refine KS.out.mono ?_
    rintro e w1 ⟨rfl, hb⟩
    have HB1 := hide hb
    clear hb KS
    go_wp2_with (go_at_call 15; refine (KF.out _).mono ?_; rintro e w' ⟨rfl, rfl⟩)
  · go_ret
    exact ⟨rfl, HB1.out⟩
  · refine (K3.out _ HB1.out).mono ?_
    rintro e w2 ⟨A9, c9, rfl, h9, hb⟩
    have HB2 := hide (kcall HB1.out hb)
    have H9 := hide h9
    clear h9 hb
    go_wp2_with fail
    refine (K4.out _ HB2.out).mono ?_
    rintro e w3 ⟨A8, c8, rfl, h8, hb⟩
    have HB3 := hide (kcall HB2.out hb)
    have H9 := hide (H9.out.bel hb)
    have H8 := hide h8
    clear h8 hb
    go_wp2_with fail
    refine (K5.out _ _ _ _ _ H9.out H8.out).mono ?_
    rintro e w4 ⟨rfl, hb⟩
    have HB4 := hide (kcall HB3.out hb)
    clear hb
    go_wp2
    go_ret
    exact ⟨rfl, HB4.out⟩
end Go.Proofs.Ytklndmnhhakmiaa

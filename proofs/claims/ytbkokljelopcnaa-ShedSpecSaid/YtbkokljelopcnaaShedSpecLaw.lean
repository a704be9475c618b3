/-
  ShedSpec, walked.
-/
import Derived.Test.YtbkokljelopcnaaHM7
namespace Go.Proofs.Ytbkokljelopcnaa
open Go.RowKit Go.Mine Go.Mine.Q
attribute [local go_sem] Oper.semAt_some
set_option maxRecDepth 100000 in
set_option maxHeartbeats 4000000 in
theorem shedSpec_law (A : Option Addr) (c : Nat) (l : List Jb) (w : World) (hS : Sl jbC 5 w A c l) :
    Calls Try.prog 9 #[.slice A l.length c] w fun e w' => e = .returned (.bool true) ∧ Below w.heap.size w w' := by
  have KS := hide (sane29 w)
  have KF := hide (fun W (h : Below w.heap.size w W) => few30 A c l W (hS.bel h))
  have K1 := hide (fun W (h : Below w.heap.size w W) => shed31 A c l W (hS.bel h))
  have K2 := hide (fun W (h : Below w.heap.size w W) => shed32 A c l W (hS.bel h))
  unfold ShedE at K1 K2
  generalize (if errH l = 0 then shedN l else []) = n at *
  generalize (if errH l = 0 then shedW l else 0) = u at *
  generalize (if errH l = 0 then shedA l else 0) = v at *
  generalize errH l = z at *
  generalize fewH l = r at *
  clear hS
  cases r
  all_goals
    go_enter Try.func9, Try.ntmps9
    go_wp2_with fail
    refine KS.out.mono ?_
    rintro e w1 ⟨rfl, hb⟩
    have HB1 := hide hb
    clear hb KS
    go_wp2_with (go_at_call 30; refine (KF.out _ HB1.out).mono ?_; rintro e w' ⟨rfl, rfl⟩)
  · go_ret
    exact ⟨rfl, HB1.out⟩
  · have K1 := hide (K1.out w1 HB1.out)
    refine K1.out.mono ?_
    rintro e w2 ⟨A1, c1, rfl, hS1, hb⟩
    have HB2 := hide (kcall HB1.out hb)
    have HS1 := hide hS1
    clear hb hS1 K1
    go_wp2_with fail
    refine (K2.out w2 HB2.out).mono ?_
    rintro e w3 ⟨A2, c2, rfl, hS2, hb⟩
    have HB3 := hide (kcall HB2.out hb)
    have K3 := hide (same33 A1 A2 c1 c2 n n w3 (HS1.out.bel hb) hS2)
    clear hb hS2 K2 HS1
    go_wp2_with fail
    refine K3.out.mono ?_
    rintro e w4 ⟨rfl, hb⟩
    have HB4 := hide (kcall HB3.out hb)
    clear hb K3
    go_wp2
    go_ret
    exact ⟨ret_bool (by simp), HB4.out⟩
end Go.Proofs.Ytbkokljelopcnaa

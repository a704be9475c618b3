/-
  ShedFitsSpec, walked.
-/
import Derived.Test.YtbkokljelopcnaaHM7
namespace Go.Proofs.Ytbkokljelopcnaa
open Go.RowKit Go.Mine Go.Mine.Q
attribute [local go_sem] Oper.semAt_some
set_option maxRecDepth 100000 in
set_option maxHeartbeats 4000000 in
theorem shedFitsSpec_law (A : Option Addr) (c : Nat) (l : List Jb) (B : Option Addr) (d : Nat) (keep : List Int) (w : World) (hS : Sl jbC 5 w A c l) (hT : Sl ic 1 w B d keep) :
    Calls Try.prog 10 #[.slice A l.length c, .slice B keep.length d] w fun e w' => e = .returned (.bool true) ∧ Below w.heap.size w w' := by
  have hld := hT.le
  have hd := hT.max
  have KS := hide (sane29 w)
  have KF := hide (fun W (h : Below w.heap.size w W) => few30 A c l W (hS.bel h))
  have K1 := hide (fun W (h : Below w.heap.size w W) hk => fits34 A c l B d keep W (hS.bel h) (hT.bel h) hk)
  have K2 := hide (fun W (h : Below w.heap.size w W) hk => fits35 A c l B d keep W (hS.bel h) (hT.bel h) hk)
  generalize (fitsR l keep).1 = u at *
  generalize (fitsR l keep).2 = z at *
  generalize fewH l = r at *
  clear hS hT
  cases r
  · go_enter Try.func10, Try.ntmps10
    go_wp2_with fail
    refine KS.out.mono ?_
    rintro e w1 ⟨rfl, hb⟩
    have HB1 := hide hb
    clear hb KS
    go_wp2_with fail
    refine (KF.out _ HB1.out).mono ?_
    rintro e w' ⟨rfl, rfl⟩
    go_wp2
    go_ret
    exact ⟨rfl, HB1.out⟩
  · go_enter Try.func10, Try.ntmps10
    go_wp2_with fail
    refine KS.out.mono ?_
    rintro e w1 ⟨rfl, hb⟩
    have HB1 := hide hb
    clear hb KS
    go_wp2_with fail
    refine (KF.out _ HB1.out).mono ?_
    rintro e w' ⟨rfl, rfl⟩
    by_cases hk : keep.length ≤ 30
    · have hki : ¬ (30 : Int) < (keep.length : Int) := by omega
      have hk5 : keep.length ≤ 100000 := by omega
      clear hk
      go_wp2_with fail
      refine (K1.out _ HB1.out hk5).mono ?_
      rintro e w2 ⟨rfl, hb⟩
      have HB2 := hide (kcall HB1.out hb)
      clear hb K1
      go_wp2_with fail
      refine (K2.out _ HB2.out hk5).mono ?_
      rintro e w3 ⟨rfl, hb⟩
      have HB3 := hide (kcall HB2.out hb)
      clear hb K2
      go_wp2
      go_ret
      exact ⟨ret_bool (by simp), HB3.out⟩
    · have hki : (30 : Int) < (keep.length : Int) := by omega
      go_wp2
      go_ret
      exact ⟨rfl, HB1.out⟩
end Go.Proofs.Ytbkokljelopcnaa

/-
  QueueSpec, walked.
-/
import Derived.Test.YtbkokljelopcnaaJM7
namespace Go.Proofs.Ytbkokljelopcnaa
open Go.RowKit Go.Mine Go.Mine.Q
attribute [local go_sem] Oper.semAt_some
set_option maxRecDepth 100000 in
set_option maxHeartbeats 4000000 in
theorem queueSpec_law (A : Option Addr) (c : Nat) (l : List Jb) (B : Option Addr) (d : Nat) (s : List Sx) (w : World) (hS : Sl jbC 5 w A c l) (hT : Sl sxC 3 w B d s) (hJ : ∀ x ∈ s, SxS x) :
    Calls Try.prog 6 #[.slice A l.length c, .slice B s.length d] w fun e w' => e = .returned (.bool true) ∧ Below w.heap.size w w' := by
  have KS := hide (sane15 w)
  have KF := hide (fun W (h : Below w.heap.size w W) => few16 A B c d l s W (hS.bel h) (hT.bel h))
  have K1 := hide (fun W (h : Below w.heap.size w W) => run22 A c l W (hS.bel h))
  have K2 := hide (fun W (h : Below w.heap.size w W) => run24 A c l W (hS.bel h))
  have K3 := hide (fun W (h : Below w.heap.size w W) (hs : s.length ≤ 1000) => accepts25 A c l B d s W (hS.bel h) (hT.bel h) hs (fun x hx => (hJ x hx).1))
  have K4 := hide (fun W (h : Below w.heap.size w W) (hs : s.length ≤ 1000) => accepts26 A c l B d s W (hS.bel h) (hT.bel h) hs)
  have K5 := hide (fun W (h : Below w.heap.size w W) => check27 A c l W (hS.bel h))
  have K6 := hide (fun W (h : Below w.heap.size w W) => check28 A c l W (hS.bel h))
  have HB0 := hide (Below.refl w.heap.size w)
  have HFW : Hid (fewB l s = true → s.length ≤ 1000) := hide (fun h => by unfold fewB at h; simp at h; omega)
  obtain ⟨r, hr⟩ : ∃ r, fewB l s = r := ⟨_, rfl⟩
  rw [hr] at KF HFW
  clear hS hT hJ hr
  cases r
  all_goals
    go_enter Try.func6, Try.ntmps6
    go_wp2_with fail
    refine KS.out.mono ?_
    rintro e w1 ⟨rfl, hb⟩
    have HB1 := hide hb
    clear hb KS
    go_wp2_with (go_at_call 16; refine (KF.out _ HB1.out).mono ?_; rintro e w' ⟨rfl, rfl⟩)
  · go_ret
    exact ⟨rfl, HB1.out⟩
  · have hsl := HFW.out trivial
    have HSL := hide hsl
    have K1 := hide (K1.out w1 HB1.out)
    unfold RunE at K1 K2
    clear hsl HFW KF
    generalize runS l = x at *
    generalize runB l = b1 at *
    generalize chk l = z at *
    generalize accR l s = q at *
    obtain ⟨q1, q2⟩ := q
    refine K1.out.mono ?_
    rintro e w2 ⟨A1, c1, rfl, hS1, hb⟩
    have HB2 := hide (kcall HB1.out hb)
    have HS1 := hide hS1
    clear hb hS1 K1
    go_wp2_with fail
    refine (K2.out w2 HB2.out).mono ?_
    rintro e w3 ⟨A2, c2, rfl, hS2, hb⟩
    have HB3 := hide (kcall HB2.out hb)
    have HS1 := hide (HS1.out.bel hb)
    have HS2 := hide hS2
    clear hb hS2 K2
    go_wp2_with fail
    refine (K3.out w3 HB3.out HSL.out).mono ?_
    rintro e w4 ⟨rfl, hb⟩
    have HB4 := hide (kcall HB3.out hb)
    have HS1 := hide (HS1.out.bel hb)
    have HS2 := hide (HS2.out.bel hb)
    clear hb K3
    go_wp2_with fail
    refine (K4.out w4 HB4.out HSL.out).mono ?_
    rintro e w5 ⟨rfl, hb⟩
    have HB5 := hide (kcall HB4.out hb)
    have HS1 := hide (HS1.out.bel hb)
    have HS2 := hide (HS2.out.bel hb)
    clear hb K4
    go_wp2_with fail
    refine (K5.out w5 HB5.out).mono ?_
    rintro e w6 ⟨rfl, hb⟩
    have HB6 := hide (kcall HB5.out hb)
    have HS1 := hide (HS1.out.bel hb)
    have HS2 := hide (HS2.out.bel hb)
    clear hb K5
    go_wp2_with fail
    refine (K6.out w6 HB6.out).mono ?_
    rintro e w7 ⟨rfl, hb⟩
    have HB7 := hide (kcall HB6.out hb)
    have HS1 := hide (HS1.out.bel hb)
    have HS2 := hide (HS2.out.bel hb)
    clear hb K6
    have K7 := hide (same23 A1 A2 c1 c2 x x w7 HS1.out HS2.out)
    rw [decide_eq_true rfl] at K7
    go_wp2_with fail
    refine K7.out.mono ?_
    rintro e w8 ⟨rfl, hb⟩
    have HB8 := hide (kcall HB7.out hb)
    go_wp2
    go_ret
    exact ⟨rfl, HB8.out⟩
end Go.Proofs.Ytbkokljelopcnaa

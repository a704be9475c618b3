/-
  ShedLeast, walked.
-/
import Derived.Test.YtbkokljelopcnaaHM7
namespace Go.Proofs.Ytbkokljelopcnaa
open Go.RowKit Go.Mine Go.Mine.Q
attribute [local go_sem] Oper.semAt_some
set_option maxRecDepth 100000 in
set_option maxHeartbeats 8000000 in
theorem shedLeast_law (A : Option Addr) (c : Nat) (l : List Jb) (B : Option Addr) (d : Nat) (o : List Int) (w : World) (hS : Sl jbC 5 w A c l) (hT : Sl ic 1 w B d o) :
    Calls Try.prog 11 #[.slice A l.length c, .slice B o.length d] w fun e w' => e = .returned (.bool true) ∧ Below w.heap.size w w' := by
  have hld := hT.le
  have hd := hT.max
  have KS := hide (sane29 w)
  have KF := hide (fun W (h : Below w.heap.size w W) => few30 A c l W (hS.bel h))
  have K1 := hide (fun W (h : Below w.heap.size w W) => shed31 A c l W (hS.bel h))
  have K2 := hide (fun (B : Option Addr) (d : Nat) (o : List Int) W (h : Below w.heap.size w W) (hT : Sl ic 1 W B d o) (hk : o.length ≤ 100000) => fits34 A c l B d o W (hS.bel h) hT hk)
  have K3 := hide (fun (hl : l.length ≤ 1000) (B : Option Addr) (d : Nat) (o : List Int) W (h : Below w.heap.size w W) (hT : Sl ic 1 W B d o) => lost36 A c l B d o W (hS.bel h) hT hl)
  have HT := hide hT
  unfold ShedE at K1
  have HZ : errH l ≠ 0 ∨ (errH l = 0 ∧ Wt l) := by
    by_cases h : errH l = 0
    · exact .inr ⟨h, Wt.of h⟩
    · exact .inl h
  clear hS hT
  generalize hR : fewH l = r at *
  clear hR
  cases r
  · go_enter Try.func11, Try.ntmps11
    go_wp2_with fail
    refine KS.out.mono ?_
    rintro e w1 ⟨rfl, hb⟩
    have HB1 := hide hb
    clear hb KS
    go_wp2_with fail
    refine (KF.out _ HB1.out).mono ?_
    rintro e w' ⟨rfl, rfl⟩
    go_wp2
    go_ret
    exact ⟨rfl, HB1.out⟩
  by_cases hk : o.length ≤ 30
  rotate_left
  · have hki : (30 : Int) < (o.length : Int) := by omega
    go_enter Try.func11, Try.ntmps11
    go_wp2_with fail
    refine KS.out.mono ?_
    rintro e w1 ⟨rfl, hb⟩
    have HB1 := hide hb
    clear hb KS
    go_wp2_with fail
    refine (KF.out _ HB1.out).mono ?_
    rintro e w' ⟨rfl, rfl⟩
    go_wp2
    go_ret
    exact ⟨rfl, HB1.out⟩
  have hki : ¬ (30 : Int) < (o.length : Int) := by omega
  have hk5 : o.length ≤ 100000 := by omega
  clear hk
  rcases HZ with hz | ⟨hz, hw⟩
  · have e1 : fitsR l o = (false, errH l) := by unfold fitsR; rw [if_neg hz]
    have K2 := hide (fun W h hT => K2.out B d o W h hT hk5)
    rw [e1] at K2
    simp only [if_neg hz] at K1
    have gz : (errH l == 0) = false := by simpa using hz
    have gz2 : (errH l != 0) = true := by simpa using hz
    generalize errH l = z at *
    clear K3 e1
    go_enter Try.func11, Try.ntmps11
    go_wp2_with fail
    refine KS.out.mono ?_
    rintro e w1 ⟨rfl, hb⟩
    have HB1 := hide hb
    clear hb KS
    go_wp2_with fail
    refine (KF.out _ HB1.out).mono ?_
    rintro e w' ⟨rfl, rfl⟩
    go_wp2_with fail
    refine (K1.out _ HB1.out).mono ?_
    rintro e w2 ⟨A2, c2, rfl, hS2, hb⟩
    have HB2 := hide (kcall HB1.out hb)
    clear hb K1 hS2
    go_wp2_with fail
    refine (K2.out _ HB2.out (HT.out.bel HB2.out)).mono ?_
    rintro e w3 ⟨rfl, hb⟩
    have HB3 := hide (kcall HB2.out hb)
    clear hb K2
    go_wp2
    go_ret
    exact ⟨ret_bool (by simp), HB3.out⟩
  · have hl10 := hw.len
    have HF : Hid (∀ s, fitsR l s = (fitsB l s, 0)) := hide (fun s => by unfold fitsR; rw [if_pos hz])
    have HL := hide (shed_lost hw)
    have HN := hide (fun h => shed_least hw (other := o) h)
    have K2a := hide (fun W h hT => K2.out B d o W h hT hk5)
    rw [HF.out] at K2a
    have HSN : (shedN l).length ≤ 100000 := by
      have h1 := nosM_len l (shedM l)
      have h2 : shedN l = nosM l (shedM l) := rfl
      rw [h2]; omega
    have K2b := hide (fun B d W h hT => K2.out B d (shedN l) W h hT HSN)
    rw [HF.out, shed_fits hw] at K2b
    have K3a := hide (fun W h hT => K3.out (by omega) B d o W h hT)
    have K3b := hide (fun B d W h hT => K3.out (by omega) B d (shedN l) W h hT)
    rw [HL.out] at K3b
    rw [hz] at K1
    simp only [if_true] at K1
    generalize fitsB l o = f at *
    generalize shedN l = n at *
    generalize shedW l = u at *
    generalize shedA l = v at *
    generalize (lostN l o).1 = p at *
    generalize (lostN l o).2 = q at *
    clear K2 K3 HF HL hw hz HSN
    go_enter Try.func11, Try.ntmps11
    go_wp2_with fail
    refine KS.out.mono ?_
    rintro e w1 ⟨rfl, hb⟩
    have HB1 := hide hb
    clear hb KS
    go_wp2_with fail
    refine (KF.out _ HB1.out).mono ?_
    rintro e w' ⟨rfl, rfl⟩
    go_wp2_with fail
    refine (K1.out _ HB1.out).mono ?_
    rintro e w2 ⟨A2, c2, rfl, hS2, hb⟩
    have HB2 := hide (kcall HB1.out hb)
    have HS2 := hide hS2
    clear hb K1 hS2
    go_wp2_with fail
    refine (K2a.out _ HB2.out (HT.out.bel HB2.out)).mono ?_
    rintro e w3 ⟨rfl, hb⟩
    have HB3 := hide (kcall HB2.out hb)
    have HS2 := hide (HS2.out.bel hb)
    clear hb K2a
    go_wp2_with fail
    refine (K2b.out A2 c2 _ HB3.out HS2.out).mono ?_
    rintro e w4 ⟨rfl, hb⟩
    have HB4 := hide (kcall HB3.out hb)
    have HS2 := hide (HS2.out.bel hb)
    clear hb K2b
    go_wp2_with fail
    refine (K3b.out A2 c2 _ HB4.out HS2.out).mono ?_
    rintro e w5 ⟨rfl, hb⟩
    have HB5 := hide (kcall HB4.out hb)
    have HS2 := hide (HS2.out.bel hb)
    clear hb K3b
    cases f
    · go_wp2
      go_ret
      exact ⟨rfl, HB5.out⟩
    have hn := HN.out rfl
    unfold notWorse at hn
    go_wp2_with fail
    refine (K3a.out _ HB5.out (HT.out.bel HB5.out)).mono ?_
    rintro e w6 ⟨rfl, hb⟩
    have HB6 := hide (kcall HB5.out hb)
    have KL := hide (less37 B A2 d c2 o n w6 (HT.out.bel HB6.out) (HS2.out.bel hb))
    clear hb K3a HN
    rcases hn with h1 | ⟨rfl, h1 | ⟨rfl, h1⟩⟩
    · have g1 : decide (u < p) = true := decide_eq_true h1
      clear h1
      go_wp2
      go_ret
      exact ⟨ret_bool (by simp [g1]), HB6.out⟩
    · have g0 : decide (p < p) = false := by simp
      have g1 : decide (v < q) = true := decide_eq_true h1
      clear h1
      go_wp2
      go_ret
      exact ⟨ret_bool (by simp [g1]), HB6.out⟩
    · have g0 : decide (p < p) = false := by simp
      have g1 : decide (q < q) = false := by simp
      rw [h1] at KL
      clear h1
      go_wp2_with fail
      refine KL.out.mono ?_
      rintro e w7 ⟨rfl, hb⟩
      have HB7 := hide (kcall HB6.out hb)
      go_wp2
      go_ret
      exact ⟨ret_bool (by simp), HB7.out⟩
end Go.Proofs.Ytbkokljelopcnaa

/-
  SpansSpec: its walk: true, whatever the input.
-/
import Derived.Test.YtbfgbkblblnbhaaS13Sane
namespace Go.Proofs.Ytbfgbkblblnbhaa
open Go.RowKit Go.Mine Go.Mine.H Go.Mine.S
set_option maxHeartbeats 1000000 in
theorem spansSpec_law (A : Option Addr) (c : Nat) (l : List Sp) (t : Int) (w : World) (hS : Sl bc 2 w A c l) :
    Calls Try.prog 8 #[.slice A l.length c, .int .i64 t] w fun e w' => e = .returned (.bool true) ∧ Below w.heap.size w w' := by
  have K29 := hide sane13_any
  have K30 := hide (fun w (hS : Sl bc 2 w A c l) => few13_any A c l w hS)
  have K31 := hide (fun w (hS : Sl bc 2 w A c l) => sHas_any A c l t w hS)
  have K32 := hide (fun w (hS : Sl bc 2 w A c l) => refHas_any A c l t w hS)
  have K33 := hide (fun w (hS : Sl bc 2 w A c l) => sTotal_any A c l w hS)
  have K34 := hide (fun w (hS : Sl bc 2 w A c l) => refTotal_any A c l w hS)
  have K35 := hide (fun w (hS : Sl bc 2 w A c l) => sCheck_any A c l w hS)
  have K36 := hide (fun w (hS : Sl bc 2 w A c l) => refCheckS_any A c l w hS)
  generalize hasR l t = hr at K31 K32
  generalize hasE l t = he at K31 K32
  generalize totR l = tr at K33 K34
  generalize chkS l = ck at K33 K34 K35 K36
  have hB0 := Below.refl w.heap.size w
  cases hf : few13 l
  · rw [hf] at K30
    clear hf
    go_enter Try.func8, Try.ntmps8
    go_wp2_with fail
    refine (K29.out _).mono ?_
    rintro e w1 ⟨rfl, hb⟩
    have s1 := hS.bel hb
    go_wp2_with fail
    refine (K30.out _ s1).mono ?_
    rintro e w2 ⟨rfl, rfl⟩
    go_wp2
    go_ret
    exact ⟨rfl, hb⟩
  · rw [hf] at K30
    clear hf
    go_enter Try.func8, Try.ntmps8
    go_wp2_with fail
    refine (K29.out _).mono ?_
    rintro e w1 ⟨rfl, hb⟩
    have s1 := hS.bel hb
    have hB1 := kcall hB0 hb
    clear hb
    go_wp2_with fail
    refine (K30.out _ s1).mono ?_
    rintro e w2 ⟨rfl, rfl⟩
    go_wp2_with fail
    refine (K31.out _ s1).mono ?_
    rintro e w2 ⟨rfl, hb⟩
    have s2 := s1.bel hb
    have hB2 := kcall hB1 hb
    clear hb
    go_wp2_with fail
    refine (K32.out _ s2).mono ?_
    rintro e w3 ⟨rfl, hb⟩
    have s3 := s2.bel hb
    have hB3 := kcall hB2 hb
    clear hb
    go_wp2_with fail
    refine (K33.out _ s3).mono ?_
    rintro e w4 ⟨rfl, hb⟩
    have s4 := s3.bel hb
    have hB4 := kcall hB3 hb
    clear hb
    go_wp2_with fail
    refine (K34.out _ s4).mono ?_
    rintro e w5 ⟨rfl, hb⟩
    have s5 := s4.bel hb
    have hB5 := kcall hB4 hb
    clear hb
    go_wp2_with fail
    refine (K35.out _ s5).mono ?_
    rintro e w6 ⟨rfl, hb⟩
    have s6 := s5.bel hb
    have hB6 := kcall hB5 hb
    clear hb
    go_wp2_with fail
    refine (K36.out _ s6).mono ?_
    rintro e w7 ⟨rfl, hb⟩
    have hB7 := kcall hB6 hb
    clear hb
    go_wp2
    go_ret
    exact ⟨rfl, hB7⟩
end Go.Proofs.Ytbfgbkblblnbhaa

/-
  HealthSpansSpec: its walk: true, whatever the input.
-/
import Derived.Test.YtbfgbkblblnbhaaHRefVoters
import Derived.Test.YtbfgbkblblnbhaaHSane2
import Derived.Test.YtbfgbkblblnbhaaHHeard4
namespace Go.Proofs.Ytbfgbkblblnbhaa
open Go.RowKit Go.Mine Go.Mine.H

set_option maxRecDepth 100000 in
set_option maxHeartbeats 2000000 in
theorem healthSpansSpec_law (A : Option Addr) (c : Nat) (l : List Beat) (n m q t : Int) (w : World) (hS : Sl bc 2 w A c l) :
    Calls Try.prog 4 #[.slice A l.length c, .int .i64 n, .int .i64 m, .int .i64 q, .int .i64 t] w fun e w' => e = .returned (.bool true) ∧ Below w.heap.size w w' := by
  have K21 := hide (fun w (hS : Sl bc 2 w A c l) => Spans_any A c l n q w hS)
  have K22 := hide (fun w (hS : Sl bc 2 w A c l) => refSpans_any A c l n q w hS)
  have K23 := hide (fun w (hS : Sl bc 2 w A c l) => Voters_any A c l m q t w hS)
  have K24 := hide (fun w (hS : Sl bc 2 w A c l) => refVoters_any A c l m q t w hS)
  generalize spansL l n q = sl at K21 K22
  generalize spansE l n q = se at K21 K22
  generalize votersL l m q t = vl at K23 K24
  generalize votersE l m q t = ve at K23 K24
  have KS := hide (fun A B c d w (hA : Sl bc 2 w A c sl) (hB : Sl bc 2 w B d sl) => sameSpans_any A B c d sl sl w hA hB)
  have KB := hide (fun A B c d w (hA : Sl bb 1 w A c vl) (hB : Sl bb 1 w B d vl) => sameBools_any A B c d vl vl w hA hB)
  have es : (sl == sl) = true := by simp
  have ev : (vl == vl) = true := by simp
  have K15 := hide sane_any
  have hB0 := Below.refl w.heap.size w
  have KF := hide (fun w (hS : Sl bc 2 w A c l) => few_any A c l w hS)
  cases hf : fewB l
  · rw [hf] at KF
    clear hf
    go_enter Try.func4, Try.ntmps4
    go_wp2_with fail
    refine (K15.out w).mono ?_
    rintro e w1 ⟨rfl, hb1⟩
    have s1 := hS.bel hb1
    go_wp2_with fail
    refine (KF.out w1 s1).mono ?_
    rintro e w1' ⟨rfl, rfl⟩
    go_wp2
    go_ret
    exact ⟨rfl, hb1⟩
  · rw [hf] at KF
    clear hf
    go_enter Try.func4, Try.ntmps4
    go_wp2_with fail
    refine (K15.out w).mono ?_
    rintro e w1 ⟨rfl, hb⟩
    have s1 := hS.bel hb
    have hB1 := kcall hB0 hb
    clear hb hB0
    go_wp2_with fail
    refine (KF.out w1 s1).mono ?_
    rintro e w1' ⟨rfl, rfl⟩
    go_wp2_with fail
    refine (K21.out w1 s1).mono ?_
    rintro e w2 ⟨A2, c2, rfl, a2, hb⟩
    have s2 := s1.bel hb
    have hB2 := kcall hB1 hb
    clear hb hB1
    go_wp2_with fail
    refine (K22.out w2 s2).mono ?_
    rintro e w3 ⟨A3, c3, rfl, a3, hb⟩
    have s3 := s2.bel hb
    have a2' := a2.bel hb
    have hB3 := kcall hB2 hb
    clear hb hB2
    go_wp2_with fail
    refine (K23.out w3 s3).mono ?_
    rintro e w4 ⟨A4, c4, rfl, a4, hb⟩
    have s4 := s3.bel hb
    have b2 := a2'.bel hb
    have b3 := a3.bel hb
    have hB4 := kcall hB3 hb
    clear hb hB3
    go_wp2_with fail
    refine (K24.out w4 s4).mono ?_
    rintro e w5 ⟨A5, c5, rfl, a5, hb⟩
    have d2 := b2.bel hb
    have d3 := b3.bel hb
    have d4 := a4.bel hb
    have hB5 := kcall hB4 hb
    clear hb hB4
    go_wp2_with fail
    refine (KS.out A2 A3 c2 c3 w5 d2 d3).mono ?_
    rintro e w6 ⟨rfl, hb⟩
    have f4 := d4.bel hb
    have f5 := a5.bel hb
    have hB6 := kcall hB5 hb
    clear hb hB5
    go_wp2_with fail
    refine (KB.out A4 A5 c4 c5 w6 f4 f5).mono ?_
    rintro e w7 ⟨rfl, hb⟩
    have hB7 := kcall hB6 hb
    clear hb hB6
    go_wp2
    go_ret
    exact ⟨rfl, hB7⟩
end Go.Proofs.Ytbfgbkblblnbhaa

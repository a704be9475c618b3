/-
  ProvenanceReachSpec: its walk: true, whatever the input.
-/
import Derived.Test.YtlobgdnhmhdhbaaPOpen
namespace Go.Proofs.Ytlobgdnhmhdhbaa
open Go.RowKit Go.Shelf Go.Mine

set_option maxRecDepth 100000 in
set_option maxHeartbeats 8000000 in
theorem provenanceReachSpec_law (A B : Option Addr) (c d : Nat) (r : List (List Int)) (n : Int) (l : List Int) (w : World) (hR : Rel w A c r) (hS : Sl ic 1 w B d l) :
    Calls Try.prog 4 #[.slice A r.length c, .int .i64 n, .slice B l.length d] w fun e w' => e = .returned (.bool true) ∧ Below w.heap.size w w' := by
  have K9 := hide sane31_any
  have Fr := hide (fun w (hR : Rel w A c r) => few10_any A c r w hR)
  have hB0 := Below.refl w.heap.size w
  have hR_a := hR.le
  have hR_b := hR.max
  have hS_a := hS.le
  have hS_b := hS.max
  cases hr : few31 r
  · rw [hr] at Fr
    go_enter Try.func4, Try.ntmps4
    go_wp2_with fail
    refine (K9.out _).mono ?_
    rintro e w1 ⟨rfl, hb⟩
    have hB1 := kcall hB0 hb
    replace hR := hR.bel hb
    replace hS := hS.bel hb
    clear hb hB0
    go_wp2_with fail
    refine (Fr.out _ hR).mono ?_
    rintro e w' ⟨rfl, rfl⟩
    go_wp2
    go_ret
    exact ⟨rfl, hB1⟩
  rw [hr] at Fr
  by_cases hl : 100 < l.length
  · have g1 : decide ((100 : Int) < l.length) = true := by simp; omega
    go_enter Try.func4, Try.ntmps4
    go_wp2_with fail
    refine (K9.out _).mono ?_
    rintro e w1 ⟨rfl, hb⟩
    have hB1 := kcall hB0 hb
    replace hR := hR.bel hb
    replace hS := hS.bel hb
    clear hb hB0
    go_wp2_with fail
    refine (Fr.out _ hR).mono ?_
    rintro e w' ⟨rfl, rfl⟩
    go_wp2
    go_ret
    exact ⟨rfl, hB1⟩
  have g1 : decide ((100 : Int) < l.length) = false := by simp; omega
  clear hr hl
  have K16 := hide (fun w (hR : Rel w A c r) (hS : Sl ic 1 w B d l) => reach16_sl A B c d r n l w hR hS)
  have K17 := hide (fun w (hR : Rel w A c r) (hS : Sl ic 1 w B d l) => reach17_sl A B c d r n l w hR hS)
  have K18 := hide (fun w (hR : Rel w A c r) (hS : Sl ic 1 w B d l) => back18_sl A B c d r n l w hR hS)
  have K19 := hide (fun w (hR : Rel w A c r) (hS : Sl ic 1 w B d l) => back19_sl A B c d r n l w hR hS)
  generalize P.reachL r n l = x at K16 K17
  generalize P.argE r n n l = e0 at K16 K17
  generalize P.backL r n l = y at K18 K19
  generalize P.argE r n r.length l = e2 at K18 K19
  go_enter Try.func4, Try.ntmps4
  go_wp2_with fail
  refine (K9.out _).mono ?_
  rintro e w1 ⟨rfl, hb⟩
  have hB1 := kcall hB0 hb
  replace hR := hR.bel hb
  replace hS := hS.bel hb
  clear hb hB0
  go_wp2_with fail
  refine (Fr.out _ hR).mono ?_
  rintro e w' ⟨rfl, rfl⟩
  go_wp2_with fail
  refine (K16.out _ hR hS).mono ?_
  rintro e w2 ⟨Ax, cx, rfl, hX, hb⟩
  have hB2 := kcall hB1 hb
  replace hR := hR.bel hb
  replace hS := hS.bel hb
  clear hb hB1
  go_wp2_with fail
  refine (K17.out _ hR hS).mono ?_
  rintro e w3 ⟨Ay, cy, rfl, hX2, hb⟩
  have hB3 := kcall hB2 hb
  replace hR := hR.bel hb
  replace hS := hS.bel hb
  replace hX := hX.bel hb
  clear hb hB2
  go_wp2_with fail
  refine (K18.out _ hR hS).mono ?_
  rintro e w4 ⟨Az, cz, rfl, hY, hb⟩
  have hB4 := kcall hB3 hb
  replace hR := hR.bel hb
  replace hS := hS.bel hb
  replace hX := hX.bel hb
  replace hX2 := hX2.bel hb
  clear hb hB3
  go_wp2_with fail
  refine (K19.out _ hR hS).mono ?_
  rintro e w5 ⟨Au, cu, rfl, hY2, hb⟩
  have hB5 := kcall hB4 hb
  replace hR := hR.bel hb
  replace hS := hS.bel hb
  replace hX := hX.bel hb
  replace hX2 := hX2.bel hb
  replace hY := hY.bel hb
  clear hb hB4
  go_wp2_with fail
  refine (ints_lit hX hX2 _ rfl).mono ?_
  rintro e w6 ⟨rfl, hb⟩
  have hB6 := kcall hB5 hb
  replace hR := hR.bel hb
  replace hS := hS.bel hb
  replace hX := hX.bel hb
  replace hX2 := hX2.bel hb
  replace hY := hY.bel hb
  replace hY2 := hY2.bel hb
  clear hb hB5
  go_wp2_with fail
  refine (ints_lit hY hY2 _ rfl).mono ?_
  rintro e w7 ⟨rfl, hb⟩
  have hB7 := kcall hB6 hb
  replace hR := hR.bel hb
  replace hS := hS.bel hb
  replace hX := hX.bel hb
  replace hX2 := hX2.bel hb
  replace hY := hY.bel hb
  replace hY2 := hY2.bel hb
  clear hb hB6
  go_wp2
  go_ret
  exact ⟨rfl, hB7⟩
end Go.Proofs.Ytlobgdnhmhdhbaa

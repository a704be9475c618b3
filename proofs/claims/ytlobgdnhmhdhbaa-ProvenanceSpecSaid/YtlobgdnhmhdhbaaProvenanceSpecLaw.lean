/-
  ProvenanceSpec: its walk: true, whatever the input.
-/
import Derived.Test.YtlobgdnhmhdhbaaPOpen
namespace Go.Proofs.Ytlobgdnhmhdhbaa
open Go.RowKit Go.Shelf Go.Mine

set_option maxRecDepth 100000 in
set_option maxHeartbeats 8000000 in
theorem provenanceSpec_law (A B : Option Addr) (c d : Nat) (r s : List (List Int)) (n : Int) (w : World) (hR : Rel w A c r) (hS : Rel w B d s) :
    Calls Try.prog 3 #[.slice A r.length c, .slice B s.length d, .int .i64 n] w fun e w' => e = .returned (.bool true) ∧ Below w.heap.size w w' := by
  have K9 := hide sane31_any
  have Fr := hide (fun w (hR : Rel w A c r) => few10_any A c r w hR)
  have Fs := hide (fun w (hS : Rel w B d s) => few10_any B d s w hS)
  have hB0 := Below.refl w.heap.size w
  have hR_a := hR.le
  have hR_b := hR.max
  have hS_a := hS.le
  have hS_b := hS.max
  cases hr : few31 r
  · rw [hr] at Fr
    go_enter Try.func3, Try.ntmps3
    go_wp2_with fail
    refine (K9.out _).mono ?_
    rintro e w1 ⟨rfl, hb⟩
    have hB1 := kcall hB0 hb
    replace hR := hR.bel hb
    replace hS := hS.bel hb
    clear hb hB0
    go_wp2_with fail
    refine (Fr.out _ hR).mono ?_
    rintro e w' ⟨rfl, rfl⟩
    go_wp2
    go_ret
    exact ⟨rfl, hB1⟩
  rw [hr] at Fr
  cases hs : few31 s
  · rw [hs] at Fs
    go_enter Try.func3, Try.ntmps3
    go_wp2_with fail
    refine (K9.out _).mono ?_
    rintro e w1 ⟨rfl, hb⟩
    have hB1 := kcall hB0 hb
    replace hR := hR.bel hb
    replace hS := hS.bel hb
    clear hb hB0
    go_wp2_with fail
    refine (Fr.out _ hR).mono ?_
    rintro e w' ⟨rfl, rfl⟩
    go_wp2_with fail
    refine (Fs.out _ hS).mono ?_
    rintro e w' ⟨rfl, rfl⟩
    go_wp2
    go_ret
    exact ⟨rfl, hB1⟩
  rw [hs] at Fs
  clear hr hs
  have K11 := hide (fun w (hR : Rel w A c r) (hS : Rel w B d s) => then11_any A B c d r s n w hR hS)
  have K12 := hide (fun w (hR : Rel w A c r) (hS : Rel w B d s) => refThen12_any A B c d r s n w hR hS)
  have K13 := hide (fun w (hR : Rel w A c r) => check13_any A c r n w hR)
  have K14 := hide (fun w (hR : Rel w A c r) => refCheck14_any A c r n w hR)
  generalize P.thenL r s n = x at K11 K12
  generalize P.thenE r s n = e0 at K11 K12
  generalize P.chk r n = z0 at K13 K14
  go_enter Try.func3, Try.ntmps3
  go_wp2_with fail
  refine (K9.out _).mono ?_
  rintro e w1 ⟨rfl, hb⟩
  have hB1 := kcall hB0 hb
  replace hR := hR.bel hb
  replace hS := hS.bel hb
  clear hb hB0
  go_wp2_with fail
  refine (Fr.out _ hR).mono ?_
  rintro e w' ⟨rfl, rfl⟩
  go_wp2_with fail
  refine (Fs.out _ hS).mono ?_
  rintro e w' ⟨rfl, rfl⟩
  go_wp2_with fail
  refine (K11.out _ hR hS).mono ?_
  rintro e w2 ⟨Ax, cx, rfl, hX, hb⟩
  have hB2 := kcall hB1 hb
  replace hR := hR.bel hb
  replace hS := hS.bel hb
  clear hb hB1
  go_wp2_with fail
  refine (K12.out _ hR hS).mono ?_
  rintro e w3 ⟨Ay, cy, rfl, hY, hb⟩
  have hB3 := kcall hB2 hb
  replace hR := hR.bel hb
  replace hS := hS.bel hb
  replace hX := hX.bel hb
  clear hb hB2
  go_wp2_with fail
  refine (K13.out _ hR).mono ?_
  rintro e w4 ⟨rfl, hb⟩
  have hB4 := kcall hB3 hb
  replace hR := hR.bel hb
  replace hS := hS.bel hb
  replace hX := hX.bel hb
  replace hY := hY.bel hb
  clear hb hB3
  go_wp2_with fail
  refine (K14.out _ hR).mono ?_
  rintro e w5 ⟨rfl, hb⟩
  have hB5 := kcall hB4 hb
  replace hR := hR.bel hb
  replace hS := hS.bel hb
  replace hX := hX.bel hb
  replace hY := hY.bel hb
  clear hb hB4
  go_wp2_with fail
  refine (same_lit hX hY _ rfl).mono ?_
  rintro e w6 ⟨rfl, hb⟩
  have hB6 := kcall hB5 hb
  replace hR := hR.bel hb
  replace hS := hS.bel hb
  replace hX := hX.bel hb
  replace hY := hY.bel hb
  clear hb hB5
  go_wp2
  go_ret
  exact ⟨rfl, hB6⟩
end Go.Proofs.Ytlobgdnhmhdhbaa

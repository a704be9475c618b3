/-
  ProvenanceSteps: its walk: true, whatever the input.
-/
import Derived.Test.YtlobgdnhmhdhbaaPOpen
namespace Go.Proofs.Ytlobgdnhmhdhbaa
open Go.RowKit Go.Shelf Go.Mine

set_option maxRecDepth 100000 in
set_option maxHeartbeats 8000000 in
theorem provenanceSteps_law (A B C D : Option Addr) (c d cs cr : Nat) (r s : List (List Int)) (n : Int) (src res : List Int) (w : World) (hR : Rel w A c r) (hS : Rel w B d s) (hC : Sl ic 1 w C cs src) (hD : Sl ic 1 w D cr res) :
    Calls Try.prog 5 #[.slice A r.length c, .slice B s.length d, .int .i64 n, .slice C src.length cs, .slice D res.length cr] w fun e w' => e = .returned (.bool true) ∧ Below w.heap.size w w' := by
  have K9 := hide sane31_any
  have Fr := hide (fun w (hR : Rel w A c r) => few10_any A c r w hR)
  have Fs := hide (fun w (hS : Rel w B d s) => few10_any B d s w hS)
  have hB0 := Below.refl w.heap.size w
  have hR_a := hR.le
  have hR_b := hR.max
  have hS_a := hS.le
  have hS_b := hS.max
  have hC_a := hC.le
  have hC_b := hC.max
  have hD_a := hD.le
  have hD_b := hD.max
  cases hr : few31 r
  · rw [hr] at Fr
    go_enter Try.func5, Try.ntmps5
    go_wp2_with fail
    refine (K9.out _).mono ?_
    rintro e w1 ⟨rfl, hb⟩
    have hB1 := kcall hB0 hb
    replace hR := hR.bel hb
    replace hS := hS.bel hb
    replace hC := hC.bel hb
    replace hD := hD.bel hb
    clear hb hB0
    go_wp2_with fail
    refine (Fr.out _ hR).mono ?_
    rintro e w' ⟨rfl, rfl⟩
    go_wp2
    go_ret
    exact ⟨rfl, hB1⟩
  rw [hr] at Fr
  cases hs : few31 s
  · rw [hs] at Fs
    go_enter Try.func5, Try.ntmps5
    go_wp2_with fail
    refine (K9.out _).mono ?_
    rintro e w1 ⟨rfl, hb⟩
    have hB1 := kcall hB0 hb
    replace hR := hR.bel hb
    replace hS := hS.bel hb
    replace hC := hC.bel hb
    replace hD := hD.bel hb
    clear hb hB0
    go_wp2_with fail
    refine (Fr.out _ hR).mono ?_
    rintro e w' ⟨rfl, rfl⟩
    go_wp2_with fail
    refine (Fs.out _ hS).mono ?_
    rintro e w' ⟨rfl, rfl⟩
    go_wp2
    go_ret
    exact ⟨rfl, hB1⟩
  rw [hs] at Fs
  by_cases hl : 100 < src.length
  · have g1 : decide ((100 : Int) < src.length) = true := by simp; omega
    go_enter Try.func5, Try.ntmps5
    go_wp2_with fail
    refine (K9.out _).mono ?_
    rintro e w1 ⟨rfl, hb⟩
    have hB1 := kcall hB0 hb
    replace hR := hR.bel hb
    replace hS := hS.bel hb
    replace hC := hC.bel hb
    replace hD := hD.bel hb
    clear hb hB0
    go_wp2_with fail
    refine (Fr.out _ hR).mono ?_
    rintro e w' ⟨rfl, rfl⟩
    go_wp2_with fail
    refine (Fs.out _ hS).mono ?_
    rintro e w' ⟨rfl, rfl⟩
    go_wp2
    go_ret
    exact ⟨rfl, hB1⟩
  have g1 : decide ((100 : Int) < src.length) = false := by simp; omega
  by_cases hl2 : 100 < res.length
  · have g2 : decide ((100 : Int) < res.length) = true := by simp; omega
    go_enter Try.func5, Try.ntmps5
    go_wp2_with fail
    refine (K9.out _).mono ?_
    rintro e w1 ⟨rfl, hb⟩
    have hB1 := kcall hB0 hb
    replace hR := hR.bel hb
    replace hS := hS.bel hb
    replace hC := hC.bel hb
    replace hD := hD.bel hb
    clear hb hB0
    go_wp2_with fail
    refine (Fr.out _ hR).mono ?_
    rintro e w' ⟨rfl, rfl⟩
    go_wp2_with fail
    refine (Fs.out _ hS).mono ?_
    rintro e w' ⟨rfl, rfl⟩
    go_wp2
    go_ret
    exact ⟨rfl, hB1⟩
  have g2 : decide ((100 : Int) < res.length) = false := by simp; omega
  clear hr hs hl hl2
  have K11 := hide (fun w (hR : Rel w A c r) (hS : Rel w B d s) => then11_any A B c d r s n w hR hS)
  by_cases he : ¬ P.thenE r s n = 0
  · rw [P.thenL_bad he] at K11
    generalize P.thenE r s n = e0 at K11 he
    go_enter Try.func5, Try.ntmps5
    go_wp2_with fail
    refine (K9.out _).mono ?_
    rintro e w1 ⟨rfl, hb⟩
    have hB1 := kcall hB0 hb
    replace hR := hR.bel hb
    replace hS := hS.bel hb
    replace hC := hC.bel hb
    replace hD := hD.bel hb
    clear hb hB0
    go_wp2_with fail
    refine (Fr.out _ hR).mono ?_
    rintro e w' ⟨rfl, rfl⟩
    go_wp2_with fail
    refine (Fs.out _ hS).mono ?_
    rintro e w' ⟨rfl, rfl⟩
    go_wp2_with fail
    refine (K11.out _ hR hS).mono ?_
    rintro e w2 ⟨Ax, cx, rfl, hX, hb⟩
    have hB2 := kcall hB1 hb
    replace hR := hR.bel hb
    replace hS := hS.bel hb
    replace hC := hC.bel hb
    replace hD := hD.bel hb
    clear hb hB1
    go_wp2
    go_ret
    exact ⟨rfl, hB2⟩
  replace he : P.thenE r s n = 0 := Classical.not_not.1 he
  have hx := P.thenL_chk he
  have Kx := hide (fun A3 c3 w (hX : Rel w A3 c3 (P.thenL r s n)) => check13_any A3 c3 _ n w hX)
  have Ka := hide (fun A3 c3 w (hX : Rel w A3 c3 (P.thenL r s n)) (hC : Sl ic 1 w C cs src) => reach16_sl A3 C c3 cs _ n src w hX hC)
  have Kb := hide (fun w (hR : Rel w A c r) (hC : Sl ic 1 w C cs src) => reach16_sl A C c cs r n src w hR hC)
  have Kc := hide (fun C2 cs2 w (hS : Rel w B d s) (hC : Sl ic 1 w C2 cs2 (P.reachL r n src)) => reach16_sl B C2 d cs2 s r.length _ w hS hC)
  have Kd := hide (fun A3 c3 w (hX : Rel w A3 c3 (P.thenL r s n)) (hD : Sl ic 1 w D cr res) => back18_sl A3 D c3 cr _ n res w hX hD)
  have Ky := hide (fun w (hS : Rel w B d s) (hD : Sl ic 1 w D cr res) => back18_sl B D d cr s r.length res w hS hD)
  have Kz := hide (fun C2 cs2 w (hR : Rel w A c r) (hC : Sl ic 1 w C2 cs2 (P.backL s r.length res)) => back18_sl A C2 c cs2 r n _ w hR hC)
  have eb := P.steps_back (res := res) he
  have ea : P.argE (P.thenL r s n) n n src = P.argE r n n src := by unfold P.argE; rw [if_pos hx.1, if_pos (P.thenE_zero.1 he).1]
  rw [he] at K11
  rw [hx.1] at Kx
  rw [eb.1] at Kd
  rw [ea] at Ka
  have eb2 := eb.2
  have es := P.steps_reach (src := src) he
  have hxl := hx.2
  clear eb hx he
  generalize hXg : P.thenL r s n = X at *
  clear hXg
  rw [hxl] at K11 Kx Ka Kd
  replace hxl := hide hxl
  by_cases hz : P.argE s r.length s.length res = 0
  · obtain ⟨b1, b2⟩ := eb2 hz
    rw [b2] at Kd
    rw [hz] at Kd Ky
    rw [b1] at Kz
    generalize P.backL r n (P.backL s r.length res) = z at Kd Kz
    generalize P.backL s r.length res = y at Ky Kz
    clear hz eb2 b1 b2
    by_cases ha : P.argE r n n src = 0
    · obtain ⟨s1, s2, s3⟩ := es ha
      rw [s3] at Ka
      rw [s2] at Kc
      rw [ha] at Ka Kb
      generalize P.reachL s r.length (P.reachL r n src) = a at Ka Kc
      generalize P.reachL r n src = b at Kb Kc
      clear ea es ha s1 s2 s3
      go_enter Try.func5, Try.ntmps5
      go_wp2_with fail
      refine (K9.out _).mono ?_
      rintro e w1 ⟨rfl, hb⟩
      have hB1 := kcall hB0 hb
      replace hR := hR.bel hb
      replace hS := hS.bel hb
      replace hC := hC.bel hb
      replace hD := hD.bel hb
      clear hb hB0
      go_wp2_with fail
      refine (Fr.out _ hR).mono ?_
      rintro e w' ⟨rfl, rfl⟩
      go_wp2_with fail
      refine (Fs.out _ hS).mono ?_
      rintro e w' ⟨rfl, rfl⟩
      go_wp2_with fail
      refine (K11.out _ hR hS).mono ?_
      rintro e w2 ⟨Ax, cx, rfl, hX, hb⟩
      have hB2 := kcall hB1 hb
      replace hR := hR.bel hb
      replace hS := hS.bel hb
      replace hC := hC.bel hb
      replace hD := hD.bel hb
      clear hb hB1
      have hX_a := hX.le
      have hX_b := hX.max
      rw [hxl.out] at hX_a
      go_wp2_with fail
      refine (Kx.out _ _ _ hX).mono ?_
      rintro e w3 ⟨rfl, hb⟩
      have hB3 := kcall hB2 hb
      replace hR := hR.bel hb
      replace hS := hS.bel hb
      replace hC := hC.bel hb
      replace hD := hD.bel hb
      replace hX := hX.bel hb
      clear hb hB2
      go_wp2_with fail
      refine (Ka.out _ _ _ hX hC).mono ?_
      rintro e w4 ⟨Aa, ca, rfl, ha1, hb⟩
      have hB4 := kcall hB3 hb
      replace hR := hR.bel hb
      replace hS := hS.bel hb
      replace hC := hC.bel hb
      replace hD := hD.bel hb
      replace hX := hX.bel hb
      clear hb hB3
      go_wp2_with fail
      refine (Kb.out _ hR hC).mono ?_
      rintro e w5 ⟨Ab, cb, rfl, hb1, hb⟩
      have hB5 := kcall hB4 hb
      replace hR := hR.bel hb
      replace hS := hS.bel hb
      replace hC := hC.bel hb
      replace hD := hD.bel hb
      replace hX := hX.bel hb
      replace ha1 := ha1.bel hb
      clear hb hB4
      go_wp2_with fail
      refine (Kc.out _ _ _ hS hb1).mono ?_
      rintro e w6 ⟨Ac, cc, rfl, hc1, hb⟩
      have hB6 := kcall hB5 hb
      replace hR := hR.bel hb
      replace hS := hS.bel hb
      replace hC := hC.bel hb
      replace hD := hD.bel hb
      replace hX := hX.bel hb
      replace ha1 := ha1.bel hb
      replace hb1 := hb1.bel hb
      clear hb hB5
      go_wp2_with fail
      refine (ints_lit ha1 hc1 _ rfl).mono ?_
      rintro e w7 ⟨rfl, hb⟩
      have hB7 := kcall hB6 hb
      replace hR := hR.bel hb
      replace hS := hS.bel hb
      replace hC := hC.bel hb
      replace hD := hD.bel hb
      replace hX := hX.bel hb
      replace ha1 := ha1.bel hb
      replace hb1 := hb1.bel hb
      replace hc1 := hc1.bel hb
      clear hb hB6
      go_wp2_with fail
      refine (Kd.out _ _ _ hX hD).mono ?_
      rintro e w8 ⟨Ad, cd, rfl, hd1, hb⟩
      have hB8 := kcall hB7 hb
      replace hR := hR.bel hb
      replace hS := hS.bel hb
      replace hC := hC.bel hb
      replace hD := hD.bel hb
      replace hX := hX.bel hb
      replace ha1 := ha1.bel hb
      replace hb1 := hb1.bel hb
      replace hc1 := hc1.bel hb
      clear hb hB7
      go_wp2_with fail
      refine (Ky.out _ hS hD).mono ?_
      rintro e w9 ⟨Ay, cy, rfl, hy1, hb⟩
      have hB9 := kcall hB8 hb
      replace hR := hR.bel hb
      replace hS := hS.bel hb
      replace hC := hC.bel hb
      replace hD := hD.bel hb
      replace hX := hX.bel hb
      replace ha1 := ha1.bel hb
      replace hb1 := hb1.bel hb
      replace hc1 := hc1.bel hb
      replace hd1 := hd1.bel hb
      clear hb hB8
      go_wp2_with fail
      refine (Kz.out _ _ _ hR hy1).mono ?_
      rintro e w10 ⟨Az, cz, rfl, hz1, hb⟩
      have hB10 := kcall hB9 hb
      replace hR := hR.bel hb
      replace hS := hS.bel hb
      replace hC := hC.bel hb
      replace hD := hD.bel hb
      replace hX := hX.bel hb
      replace ha1 := ha1.bel hb
      replace hb1 := hb1.bel hb
      replace hc1 := hc1.bel hb
      replace hd1 := hd1.bel hb
      replace hy1 := hy1.bel hb
      clear hb hB9
      go_wp2_with fail
      refine (ints_lit hd1 hz1 _ rfl).mono ?_
      rintro e w11 ⟨rfl, hb⟩
      have hB11 := kcall hB10 hb
      replace hR := hR.bel hb
      replace hS := hS.bel hb
      replace hC := hC.bel hb
      replace hD := hD.bel hb
      replace hX := hX.bel hb
      replace ha1 := ha1.bel hb
      replace hb1 := hb1.bel hb
      replace hc1 := hc1.bel hb
      replace hd1 := hd1.bel hb
      replace hy1 := hy1.bel hb
      replace hz1 := hz1.bel hb
      clear hb hB10
      go_wp2
      go_ret
      exact ⟨rfl, hB11⟩
    · generalize P.reachL X n src = a at Ka
      generalize P.reachL r n src = b at Kb
      generalize P.argE r n n src = e0 at Ka Kb ha
      clear ea es Kc
      go_enter Try.func5, Try.ntmps5
      go_wp2_with fail
      refine (K9.out _).mono ?_
      rintro e w1 ⟨rfl, hb⟩
      have hB1 := kcall hB0 hb
      replace hR := hR.bel hb
      replace hS := hS.bel hb
      replace hC := hC.bel hb
      replace hD := hD.bel hb
      clear hb hB0
      go_wp2_with fail
      refine (Fr.out _ hR).mono ?_
      rintro e w' ⟨rfl, rfl⟩
      go_wp2_with fail
      refine (Fs.out _ hS).mono ?_
      rintro e w' ⟨rfl, rfl⟩
      go_wp2_with fail
      refine (K11.out _ hR hS).mono ?_
      rintro e w2 ⟨Ax, cx, rfl, hX, hb⟩
      have hB2 := kcall hB1 hb
      replace hR := hR.bel hb
      replace hS := hS.bel hb
      replace hC := hC.bel hb
      replace hD := hD.bel hb
      clear hb hB1
      have hX_a := hX.le
      have hX_b := hX.max
      rw [hxl.out] at hX_a
      go_wp2_with fail
      refine (Kx.out _ _ _ hX).mono ?_
      rintro e w3 ⟨rfl, hb⟩
      have hB3 := kcall hB2 hb
      replace hR := hR.bel hb
      replace hS := hS.bel hb
      replace hC := hC.bel hb
      replace hD := hD.bel hb
      replace hX := hX.bel hb
      clear hb hB2
      go_wp2_with fail
      refine (Ka.out _ _ _ hX hC).mono ?_
      rintro e w4 ⟨Aa, ca, rfl, ha1, hb⟩
      have hB4 := kcall hB3 hb
      replace hR := hR.bel hb
      replace hS := hS.bel hb
      replace hC := hC.bel hb
      replace hD := hD.bel hb
      replace hX := hX.bel hb
      clear hb hB3
      go_wp2_with fail
      refine (Kb.out _ hR hC).mono ?_
      rintro e w5 ⟨Ab, cb, rfl, hb1, hb⟩
      have hB5 := kcall hB4 hb
      replace hR := hR.bel hb
      replace hS := hS.bel hb
      replace hC := hC.bel hb
      replace hD := hD.bel hb
      replace hX := hX.bel hb
      replace ha1 := ha1.bel hb
      clear hb hB4
      go_wp2_with fail
      refine (Kd.out _ _ _ hX hD).mono ?_
      rintro e w6 ⟨Ad, cd, rfl, hd1, hb⟩
      have hB6 := kcall hB5 hb
      replace hR := hR.bel hb
      replace hS := hS.bel hb
      replace hC := hC.bel hb
      replace hD := hD.bel hb
      replace hX := hX.bel hb
      replace ha1 := ha1.bel hb
      replace hb1 := hb1.bel hb
      clear hb hB5
      go_wp2_with fail
      refine (Ky.out _ hS hD).mono ?_
      rintro e w7 ⟨Ay, cy, rfl, hy1, hb⟩
      have hB7 := kcall hB6 hb
      replace hR := hR.bel hb
      replace hS := hS.bel hb
      replace hC := hC.bel hb
      replace hD := hD.bel hb
      replace hX := hX.bel hb
      replace ha1 := ha1.bel hb
      replace hb1 := hb1.bel hb
      replace hd1 := hd1.bel hb
      clear hb hB6
      go_wp2_with fail
      refine (Kz.out _ _ _ hR hy1).mono ?_
      rintro e w8 ⟨Az, cz, rfl, hz1, hb⟩
      have hB8 := kcall hB7 hb
      replace hR := hR.bel hb
      replace hS := hS.bel hb
      replace hC := hC.bel hb
      replace hD := hD.bel hb
      replace hX := hX.bel hb
      replace ha1 := ha1.bel hb
      replace hb1 := hb1.bel hb
      replace hd1 := hd1.bel hb
      replace hy1 := hy1.bel hb
      clear hb hB7
      go_wp2_with fail
      refine (ints_lit hd1 hz1 _ rfl).mono ?_
      rintro e w9 ⟨rfl, hb⟩
      have hB9 := kcall hB8 hb
      replace hR := hR.bel hb
      replace hS := hS.bel hb
      replace hC := hC.bel hb
      replace hD := hD.bel hb
      replace hX := hX.bel hb
      replace ha1 := ha1.bel hb
      replace hb1 := hb1.bel hb
      replace hd1 := hd1.bel hb
      replace hy1 := hy1.bel hb
      replace hz1 := hz1.bel hb
      clear hb hB8
      go_wp2
      go_ret
      exact ⟨rfl, hB9⟩
  · generalize P.backL X n res = z at Kd
    generalize P.backL s r.length res = y at Ky
    generalize P.argE s r.length s.length res = e2 at Kd Ky hz
    clear eb2 Kz
    by_cases ha : P.argE r n n src = 0
    · obtain ⟨s1, s2, s3⟩ := es ha
      rw [s3] at Ka
      rw [s2] at Kc
      rw [ha] at Ka Kb
      generalize P.reachL s r.length (P.reachL r n src) = a at Ka Kc
      generalize P.reachL r n src = b at Kb Kc
      clear ea es ha s1 s2 s3
      go_enter Try.func5, Try.ntmps5
      go_wp2_with fail
      refine (K9.out _).mono ?_
      rintro e w1 ⟨rfl, hb⟩
      have hB1 := kcall hB0 hb
      replace hR := hR.bel hb
      replace hS := hS.bel hb
      replace hC := hC.bel hb
      replace hD := hD.bel hb
      clear hb hB0
      go_wp2_with fail
      refine (Fr.out _ hR).mono ?_
      rintro e w' ⟨rfl, rfl⟩
      go_wp2_with fail
      refine (Fs.out _ hS).mono ?_
      rintro e w' ⟨rfl, rfl⟩
      go_wp2_with fail
      refine (K11.out _ hR hS).mono ?_
      rintro e w2 ⟨Ax, cx, rfl, hX, hb⟩
      have hB2 := kcall hB1 hb
      replace hR := hR.bel hb
      replace hS := hS.bel hb
      replace hC := hC.bel hb
      replace hD := hD.bel hb
      clear hb hB1
      have hX_a := hX.le
      have hX_b := hX.max
      rw [hxl.out] at hX_a
      go_wp2_with fail
      refine (Kx.out _ _ _ hX).mono ?_
      rintro e w3 ⟨rfl, hb⟩
      have hB3 := kcall hB2 hb
      replace hR := hR.bel hb
      replace hS := hS.bel hb
      replace hC := hC.bel hb
      replace hD := hD.bel hb
      replace hX := hX.bel hb
      clear hb hB2
      go_wp2_with fail
      refine (Ka.out _ _ _ hX hC).mono ?_
      rintro e w4 ⟨Aa, ca, rfl, ha1, hb⟩
      have hB4 := kcall hB3 hb
      replace hR := hR.bel hb
      replace hS := hS.bel hb
      replace hC := hC.bel hb
      replace hD := hD.bel hb
      replace hX := hX.bel hb
      clear hb hB3
      go_wp2_with fail
      refine (Kb.out _ hR hC).mono ?_
      rintro e w5 ⟨Ab, cb, rfl, hb1, hb⟩
      have hB5 := kcall hB4 hb
      replace hR := hR.bel hb
      replace hS := hS.bel hb
      replace hC := hC.bel hb
      replace hD := hD.bel hb
      replace hX := hX.bel hb
      replace ha1 := ha1.bel hb
      clear hb hB4
      go_wp2_with fail
      refine (Kc.out _ _ _ hS hb1).mono ?_
      rintro e w6 ⟨Ac, cc, rfl, hc1, hb⟩
      have hB6 := kcall hB5 hb
      replace hR := hR.bel hb
      replace hS := hS.bel hb
      replace hC := hC.bel hb
      replace hD := hD.bel hb
      replace hX := hX.bel hb
      replace ha1 := ha1.bel hb
      replace hb1 := hb1.bel hb
      clear hb hB5
      go_wp2_with fail
      refine (ints_lit ha1 hc1 _ rfl).mono ?_
      rintro e w7 ⟨rfl, hb⟩
      have hB7 := kcall hB6 hb
      replace hR := hR.bel hb
      replace hS := hS.bel hb
      replace hC := hC.bel hb
      replace hD := hD.bel hb
      replace hX := hX.bel hb
      replace ha1 := ha1.bel hb
      replace hb1 := hb1.bel hb
      replace hc1 := hc1.bel hb
      clear hb hB6
      go_wp2_with fail
      refine (Kd.out _ _ _ hX hD).mono ?_
      rintro e w8 ⟨Ad, cd, rfl, hd1, hb⟩
      have hB8 := kcall hB7 hb
      replace hR := hR.bel hb
      replace hS := hS.bel hb
      replace hC := hC.bel hb
      replace hD := hD.bel hb
      replace hX := hX.bel hb
      replace ha1 := ha1.bel hb
      replace hb1 := hb1.bel hb
      replace hc1 := hc1.bel hb
      clear hb hB7
      go_wp2_with fail
      refine (Ky.out _ hS hD).mono ?_
      rintro e w9 ⟨Ay, cy, rfl, hy1, hb⟩
      have hB9 := kcall hB8 hb
      replace hR := hR.bel hb
      replace hS := hS.bel hb
      replace hC := hC.bel hb
      replace hD := hD.bel hb
      replace hX := hX.bel hb
      replace ha1 := ha1.bel hb
      replace hb1 := hb1.bel hb
      replace hc1 := hc1.bel hb
      replace hd1 := hd1.bel hb
      clear hb hB8
      go_wp2
      go_ret
      exact ⟨rfl, hB9⟩
    · generalize P.reachL X n src = a at Ka
      generalize P.reachL r n src = b at Kb
      generalize P.argE r n n src = e0 at Ka Kb ha
      clear ea es Kc
      go_enter Try.func5, Try.ntmps5
      go_wp2_with fail
      refine (K9.out _).mono ?_
      rintro e w1 ⟨rfl, hb⟩
      have hB1 := kcall hB0 hb
      replace hR := hR.bel hb
      replace hS := hS.bel hb
      replace hC := hC.bel hb
      replace hD := hD.bel hb
      clear hb hB0
      go_wp2_with fail
      refine (Fr.out _ hR).mono ?_
      rintro e w' ⟨rfl, rfl⟩
      go_wp2_with fail
      refine (Fs.out _ hS).mono ?_
      rintro e w' ⟨rfl, rfl⟩
      go_wp2_with fail
      refine (K11.out _ hR hS).mono ?_
      rintro e w2 ⟨Ax, cx, rfl, hX, hb⟩
      have hB2 := kcall hB1 hb
      replace hR := hR.bel hb
      replace hS := hS.bel hb
      replace hC := hC.bel hb
      replace hD := hD.bel hb
      clear hb hB1
      have hX_a := hX.le
      have hX_b := hX.max
      rw [hxl.out] at hX_a
      go_wp2_with fail
      refine (Kx.out _ _ _ hX).mono ?_
      rintro e w3 ⟨rfl, hb⟩
      have hB3 := kcall hB2 hb
      replace hR := hR.bel hb
      replace hS := hS.bel hb
      replace hC := hC.bel hb
      replace hD := hD.bel hb
      replace hX := hX.bel hb
      clear hb hB2
      go_wp2_with fail
      refine (Ka.out _ _ _ hX hC).mono ?_
      rintro e w4 ⟨Aa, ca, rfl, ha1, hb⟩
      have hB4 := kcall hB3 hb
      replace hR := hR.bel hb
      replace hS := hS.bel hb
      replace hC := hC.bel hb
      replace hD := hD.bel hb
      replace hX := hX.bel hb
      clear hb hB3
      go_wp2_with fail
      refine (Kb.out _ hR hC).mono ?_
      rintro e w5 ⟨Ab, cb, rfl, hb1, hb⟩
      have hB5 := kcall hB4 hb
      replace hR := hR.bel hb
      replace hS := hS.bel hb
      replace hC := hC.bel hb
      replace hD := hD.bel hb
      replace hX := hX.bel hb
      replace ha1 := ha1.bel hb
      clear hb hB4
      go_wp2_with fail
      refine (Kd.out _ _ _ hX hD).mono ?_
      rintro e w6 ⟨Ad, cd, rfl, hd1, hb⟩
      have hB6 := kcall hB5 hb
      replace hR := hR.bel hb
      replace hS := hS.bel hb
      replace hC := hC.bel hb
      replace hD := hD.bel hb
      replace hX := hX.bel hb
      replace ha1 := ha1.bel hb
      replace hb1 := hb1.bel hb
      clear hb hB5
      go_wp2_with fail
      refine (Ky.out _ hS hD).mono ?_
      rintro e w7 ⟨Ay, cy, rfl, hy1, hb⟩
      have hB7 := kcall hB6 hb
      replace hR := hR.bel hb
      replace hS := hS.bel hb
      replace hC := hC.bel hb
      replace hD := hD.bel hb
      replace hX := hX.bel hb
      replace ha1 := ha1.bel hb
      replace hb1 := hb1.bel hb
      replace hd1 := hd1.bel hb
      clear hb hB6
      go_wp2
      go_ret
      exact ⟨rfl, hB7⟩
end Go.Proofs.Ytlobgdnhmhdhbaa

/-
  Layer 14 (frames): Frame, by the reference: the same as by the program.
-/
import Derived.Test.YtbifppncjplebaaFUsed
namespace Go.Proofs.Ytbifppncjplebaa
open Go.RowKit Go.Mine

theorem frameR_bad {b : Int} {s d : Bool} (h m sc f : Int) (ho : okR b s d = false) : frameR b s d h m sc f = (0, 140) := by unfold frameR; rw [ho]; rfl
theorem frameR_un {b : Int} {s d : Bool} {h m sc f : Int} (hu : usedV b (dropR b d) h m sc f = false) : frameR b s d h m sc f = (0, 140) := by
  unfold usedV at hu
  unfold frameR
  cases h1 : okR b s d
  · rfl
  · rw [if_pos rfl]
    cases h2 : rangeB b h m sc f
    · rfl
    · rw [if_pos rfl]
      rw [h2] at hu
      rw [if_pos (by simpa using hu)]
theorem frameR_us {b : Int} {s d : Bool} {h m sc f : Int} (ho : okR b s d = true) (hu : usedV b (dropR b d) h m sc f = true) : frameR b s d h m sc f =
    if 1073741824 ≤ h then (0, 2) else if numB (numOf b (dropR b d) h m sc f) = true then (numOf b (dropR b d) h m sc f, 0) else (0, 2) := by
  unfold usedV at hu
  simp only [Bool.and_eq_true, Bool.not_eq_true'] at hu
  unfold frameR
  rw [ho, hu.1, hu.2]
  simp

/-- the reference's sum -/
theorem num_eq (b D h m s f : Int) (hm : (60 * h + m) % 10 = 0) : minR b D (60 * h + m) + s * b + f = numOf b D h m s f := by
  unfold minR numOf
  have e : (60 * h + m + 9) / 10 = (60 * h + m) / 10 := by omega
  rw [e]
  generalize 60 * h + m = M
  rw [Int.add_mul, Int.mul_comm 60 M]
  omega
theorem num_eq' (b D h m s f : Int) (hm : (60 * h + m) % 10 ≠ 0) : minR b D (60 * h + m) + s * b + f - D = numOf b D h m s f := by
  unfold minR numOf
  have e : (60 * h + m + 9) / 10 = (60 * h + m) / 10 + 1 := by omega
  rw [e]
  generalize 60 * h + m = M
  have e2 : M - (M / 10 + 1) = (M - M / 10) - 1 := by omega
  rw [e2, Int.mul_sub D, Int.add_mul, Int.mul_comm 60 M]
  omega
theorem minR_bounds {b D M : Int} (hb : 0 ≤ b ∧ b ≤ 60) (hD : 0 ≤ D ∧ D ≤ 4) (hM : 0 ≤ M ∧ M ≤ 1099511627776) : -4398046511104 ≤ minR b D M ∧ minR b D M ≤ 3958241859993600 := by
  unfold minR
  have e1 : 0 ≤ M * 60 * b := Int.mul_nonneg (by omega) hb.1
  have e2 : M * 60 * b ≤ 1099511627776 * 60 * 60 := Int.mul_le_mul (by omega) hb.2 hb.1 (by omega)
  have e3 : 0 ≤ D * (M - (M + 9) / 10) := Int.mul_nonneg hD.1 (by omega)
  have e4 : D * (M - (M + 9) / 10) ≤ 4 * 1099511627776 := Int.mul_le_mul hD.2 (by omega) (by omega) (by omega)
  omega

set_option maxHeartbeats 4000000 in
theorem refFrame_any (b : Int) (s d : Bool) (h m sc f : Int) (w : World) :
    Calls Try.prog 13 #[.agg #[.int .i64 b, .bool s, .bool d], .agg #[.int .i64 h, .int .i64 m, .int .i64 sc, .int .i64 f]] w fun e w' => e = .returned (.tuple #[.int .i64 (frameR b s d h m sc f).1, .int .i64 (frameR b s d h m sc f).2]) ∧ Below w.heap.size w w' := by
  have KC := hide (fun w => refCheck_any b s d w)
  cases ho : okR b s d
  · rw [chkR_bad ho] at KC
    have E := hide (frameR_bad (b := b) (s := s) (d := d) h m sc f ho)
    clear ho
    go_enter Try.func13, Try.ntmps13
    go_wp2_with (go_at_call 15; refine (KC.out _).mono ?_; rintro e w1 ⟨rfl, hb1⟩)
    go_ret2
    exact ⟨by rw [E.out]; rfl, ((((Below.refl w.heap.size w).alloc (Nat.le_refl _) (Obj.cells #[.int .i64 b, .bool s, .bool d] 23)).alloc (by simp) (Obj.cells #[.int .i64 h, .int .i64 m, .int .i64 sc, .int .i64 f] 25))).trans (hb1.mono (by simp; omega))⟩
  · obtain ⟨b1, b2⟩ := okR_pos ho
    rw [chkR_ok ho] at KC
    have hD : 0 ≤ dropR b d ∧ dropR b d ≤ 4 := by unfold dropR; split <;> omega
    have KU := hide (fun w => Used_any b s d h m sc f ⟨by omega, b2⟩ w)
    go_enter Try.func13, Try.ntmps13
    go_wp2_with fail
    refine (KC.out _).mono ?_
    rintro e w1 ⟨rfl, hb1⟩
    have hB1 := ((((Below.refl w.heap.size w).alloc (Nat.le_refl _) (Obj.cells #[.int .i64 b, .bool s, .bool d] 23)).alloc (by simp) (Obj.cells #[.int .i64 h, .int .i64 m, .int .i64 sc, .int .i64 f] 25))).trans (hb1.mono (by simp; omega))
    have k0 : ∀ (j : Nat) v, #[Value.int .i64 b, .bool s, .bool d][j]? = some v → w1.cell? ⟨w.heap.size, j, none⟩ = some v := fun j v hv => (hb1.cell (p := ⟨w.heap.size, j, none⟩) (by simp; omega)).trans (by rw [World.cell?, heap_alloc_at (heap_new _ _)]; exact hv)
    have l0 : ∀ (j : Nat) v, #[Value.int .i64 h, .int .i64 m, .int .i64 sc, .int .i64 f][j]? = some v → w1.cell? ⟨w.heap.size + 1, j, none⟩ = some v := fun j v hv => (hb1.cell (p := ⟨w.heap.size + 1, j, none⟩) (by simp)).trans (by rw [World.cell?, new_row1]; exact hv)
    have hz : w.heap.size + 2 ≤ w1.heap.size := by have := hb1.size; simp at this; omega
    clear hb1
    have ka := k0 0 _ rfl
    have kb := k0 1 _ rfl
    have kc := k0 2 _ rfl
    have la := l0 0 _ rfl
    have lb := l0 1 _ rfl
    have lc := l0 2 _ rfl
    have ld := l0 3 _ rfl
    have hk0 := hide k0
    have hl0 := hide l0
    clear k0 l0
    cases hu : usedV b (dropR b d) h m sc f
    · have E := hide (frameR_un (s := s) hu)
      rw [hu] at KU
      clear hu ho
      go_wp2_with fail
      refine (KU.out _).mono ?_
      rintro e w2 ⟨rfl, hb2⟩
      go_wp2_with fail
      go_ret2
      exact ⟨by rw [E.out]; rfl, hB1.trans (hb2.mono hB1.size)⟩
    · have E := hide (frameR_us (s := s) ho hu)
      have hR : rangeB b h m sc f = true := by
        unfold usedV at hu
        simp only [Bool.and_eq_true] at hu
        exact hu.1
      rw [rangeB_iff] at hR
      obtain ⟨r1, r2, r3, r4, r5, r6, r7⟩ := hR
      rw [hu] at KU
      clear hu ho
      have KL := hide (fun w => left_any b s d ⟨by omega, b2⟩ w)
      have KM := hide (fun (hM : 0 ≤ 60 * h + m ∧ 60 * h + m ≤ 1099511627776) w => minute_any b s d (60 * h + m) ⟨by omega, b2⟩ hM w)
      generalize dropR b d = D at KL KM hD E
      go_wp2_with fail
      refine (KU.out _).mono ?_
      rintro e w2 ⟨rfl, hb2⟩
      have hB2 := hB1.trans (hb2.mono hB1.size)
      have ka := (hb2.cell (p := ⟨w.heap.size, 0, none⟩) (by dsimp only; omega)).trans ka
      have kb := (hb2.cell (p := ⟨w.heap.size, 1, none⟩) (by dsimp only; omega)).trans kb
      have kc := (hb2.cell (p := ⟨w.heap.size, 2, none⟩) (by dsimp only; omega)).trans kc
      have la := (hb2.cell (p := ⟨w.heap.size + 1, 0, none⟩) (by dsimp only; omega)).trans la
      have lb := (hb2.cell (p := ⟨w.heap.size + 1, 1, none⟩) (by dsimp only; omega)).trans lb
      have lc := (hb2.cell (p := ⟨w.heap.size + 1, 2, none⟩) (by dsimp only; omega)).trans lc
      have ld := (hb2.cell (p := ⟨w.heap.size + 1, 3, none⟩) (by dsimp only; omega)).trans ld
      have hz2 : w.heap.size + 2 ≤ w2.heap.size := Nat.le_trans hz hb2.size
      clear hb2 hk0 hl0 hB1 hz
      by_cases hh : 1073741824 < h
      · have EL := hide (show frameR b s d h m sc f = (0, 2) by rw [E.out, if_pos (by omega)])
        go_wp2
        go_ret2
        exact ⟨by rw [EL.out]; rfl, hB2⟩
      · have hM : 0 ≤ 60 * h + m ∧ 60 * h + m ≤ 1099511627776 := by omega
        have KM := hide (KM.out hM)
        have hV := minR_bounds ⟨by omega, b2⟩ hD hM
        have EL : frameR b s d h m sc f = if numB (numOf b D h m sc f) = true then (numOf b D h m sc f, 0) else (0, 2) := by
          rw [E.out]
          by_cases h2 : 1073741824 ≤ h
          · rw [if_pos h2, if_neg]
            obtain rfl : h = 1073741824 := by omega
            have x1 : (60 * (60 * 1073741824 + m) + 0) * 24 ≤ (60 * (60 * 1073741824 + m) + sc) * b := Int.mul_le_mul (by omega) b1 (by omega) (by omega)
            have x4 : D * (60 * 1073741824 + m - (60 * 1073741824 + m) / 10) ≤ 4 * 70000000000 := Int.mul_le_mul hD.2 (by omega) (by omega) (by omega)
            have hbig : ¬ numOf b D 1073741824 m sc f < 1073741824 := by unfold numOf; omega
            simp [numB, hbig]
          · rw [if_neg h2]
        have y1 : 0 ≤ sc * b := Int.mul_nonneg (by omega) (by omega)
        have y2 : sc * b ≤ 60 * 60 := Int.mul_le_mul (by omega) b2 (by omega) (by omega)
        have q0 := num_eq b D h m sc f
        have q1 := num_eq' b D h m sc f
        generalize minR b D (60 * h + m) = V at KM hV q0 q1
        obtain ⟨v1, v2⟩ := hV
        obtain ⟨d1, d2⟩ := hD
        have hl0 : w.heap.size < w2.heap.size := by omega
        have hl1 : w.heap.size + 1 < w2.heap.size := by omega
        rcases Classical.em ((60 * h + m) % 10 = 0) with hm | hm
        · rw [← q0 hm] at EL
          clear q0 q1
          have hmb : ((60 * h + m) % 10 != 0) = false := by simp [hm]
          clear hm
          have KF := hide (fun w => frameN_any (V + sc * b + f) w)
          cases hn : numB (V + sc * b + f)
          all_goals
            rw [hn] at EL KF
            replace EL := hide EL
            clear hn E
            go_wp2_with fail
            have c0 := BW.get hl0 ka
            have c1 := BW.get hl0 kb
            have c2 := BW.get hl0 kc
            have e0 := BW.get hl1 la
            have e1 := BW.get hl1 lb
            have e2 := BW.get hl1 lc
            have e3 := BW.get hl1 ld
            refine wp_quiet_below (by kernel_rfl) (by kernel_rfl) ?_
            repeat (go_big_quiet_step ((go_at_call 26; exact quiet_below (KM.out _))))
            refine wpQuiet_nil ?_
            rintro _ ⟨x, rfl⟩
            have hx := x.below
            clear ka kb kc la lb lc ld
            go_wp2_with (go_at_call 25; refine (KF.out _).mono ?_; rintro e w4 ⟨rfl, rfl⟩)
            go_ret2
            exact ⟨by rw [EL.out]; rfl, hB2.trans (hx.mono hB2.size)⟩
        · rw [← q1 hm] at EL
          clear q0 q1
          have hmb : ((60 * h + m) % 10 != 0) = true := by simpa using hm
          clear hm
          have KF := hide (fun w => frameN_any (V + sc * b + f - D) w)
          cases hn : numB (V + sc * b + f - D)
          all_goals
            rw [hn] at EL KF
            replace EL := hide EL
            clear hn E
            go_wp2_with fail
            have c0 := BW.get hl0 ka
            have c1 := BW.get hl0 kb
            have c2 := BW.get hl0 kc
            have e0 := BW.get hl1 la
            have e1 := BW.get hl1 lb
            have e2 := BW.get hl1 lc
            have e3 := BW.get hl1 ld
            refine wp_quiet_below (by kernel_rfl) (by kernel_rfl) ?_
            repeat (go_big_quiet_step ((go_at_call 26; exact quiet_below (KM.out _))))
            refine wpQuiet_nil ?_
            rintro _ ⟨x, rfl⟩
            have hx := x.below
            have hx0 := hx.size
            have ka := (hx.cell (p := ⟨w.heap.size, 0, none⟩) hl0).trans ka
            have kb := (hx.cell (p := ⟨w.heap.size, 1, none⟩) hl0).trans kb
            have kc := (hx.cell (p := ⟨w.heap.size, 2, none⟩) hl0).trans kc
            clear la lb lc ld
            go_wp2_with (first | (go_at_call 25; refine (KF.out _).mono ?_; rintro e w4 ⟨rfl, rfl⟩) | (go_at_call 27; refine (KL.out _).mono ?_; rintro e w3 ⟨rfl, hb3⟩))
            go_ret2
            exact ⟨by rw [EL.out]; rfl, hB2.trans ((hx.trans (hb3.mono hx.size)).mono hB2.size)⟩
end Go.Proofs.Ytbifppncjplebaa

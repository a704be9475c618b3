/-
  Layer 14 (frames): Start and At, by the program and by the reference.
-/
import Derived.Test.YtbifppncjplebaaFSmall
import Derived.Test.YtbifppncjplebaaFChk2
namespace Go.Proofs.Ytbifppncjplebaa
open Go.RowKit Go.Mine

theorem okR_pos {b : Int} {s d : Bool} (h : okR b s d = true) : 24 ≤ b ∧ b ≤ 60 := by
  unfold okR at h
  simp only [Bool.or_eq_true, Bool.and_eq_true, beq_iff_eq] at h
  omega
theorem chkR_ok {b : Int} {s d : Bool} (h : okR b s d = true) : chkR b s d = 0 := by unfold chkR; rw [if_pos h]
theorem chkR_bad {b : Int} {s d : Bool} (h : okR b s d = false) : chkR b s d = 140 := by unfold chkR; rw [h]; rfl

def startR (b : Int) (s d : Bool) (n : Int) : Int × Int := if okR b s d = true then if numB n = true then ((n * msR s + b - 1) / b, 0) else (0, 1) else (0, 140)
def atR (b : Int) (s d : Bool) (t : Int) : Int × Int := if okR b s d = true then if 0 ≤ t ∧ t < 1099511627776 then if numB (t * b / msR s) = true then (t * b / msR s, 0) else (0, 2) else (0, 1) else (0, 140)

set_option maxHeartbeats 1000000 in
theorem Start_any (b : Int) (s d : Bool) (n : Int) (w : World) :
    Calls Try.prog 16 #[.agg #[.int .i64 b, .bool s, .bool d], .int .i64 n] w fun e w' => e = .returned (.tuple #[.int .i64 (startR b s d n).1, .int .i64 (startR b s d n).2]) ∧ Below w.heap.size w w' := by
  have KC := hide (fun w => fcheck_any b s d w)
  have KM := hide (fun w => ms_any b s d w)
  have KN := hide (fun w => numbered_any n w)
  cases ho : okR b s d
  · rw [chkR_bad ho] at KC
    have E := hide (show startR b s d n = (0, 140) by unfold startR; rw [ho]; rfl)
    clear ho
    go_enter Try.func16, Try.ntmps16
    go_wp2_with (go_at_call 14; refine (KC.out _).mono ?_; rintro e w1 ⟨rfl, hb1⟩)
    go_ret2
    exact ⟨by rw [E.out]; rfl, ((Below.refl _ _).alloc (Nat.le_refl _) _).trans (hb1.mono (by simp))⟩
  · obtain ⟨b1, b2⟩ := okR_pos ho
    rw [chkR_ok ho] at KC
    cases hn : numB n
    · rw [hn] at KN
      have E := hide (show startR b s d n = (0, 1) by unfold startR; rw [ho, hn]; rfl)
      clear ho hn
      go_enter Try.func16, Try.ntmps16
      go_wp2_with (first | (go_at_call 14; refine (KC.out _).mono ?_; rintro e w1 ⟨rfl, hb1⟩) | (go_at_call 22; refine (KN.out _).mono ?_; rintro e w2 ⟨rfl, rfl⟩))
      go_ret2
      exact ⟨by rw [E.out]; rfl, ((Below.refl _ _).alloc (Nat.le_refl _) _).trans (hb1.mono (by simp))⟩
    · rw [hn] at KN
      have E := hide (show startR b s d n = ((n * msR s + b - 1) / b, 0) by unfold startR; rw [ho, hn]; rfl)
      obtain ⟨n1, n2⟩ : 0 ≤ n ∧ n < 1073741824 := by simpa [numB] using hn
      clear ho hn
      have hM : 1000 ≤ msR s ∧ msR s ≤ 1001 := by unfold msR; split <;> omega
      generalize msR s = M at KM hM E
      obtain ⟨m1, m2⟩ := hM
      have e1 : 0 ≤ n * M := Int.mul_nonneg n1 (by omega)
      have e2 : n * M ≤ 1073741824 * 1001 := Int.mul_le_mul (by omega) m2 (by omega) (by omega)
      go_enter Try.func16, Try.ntmps16
      go_wp2_with (first | (go_at_call 14; refine (KC.out _).mono ?_; rintro e w1 ⟨rfl, hb1⟩; have hB1 := ((Below.refl w.heap.size w).alloc (Nat.le_refl _) (Obj.cells #[.int .i64 b, .bool s, .bool d] 23)).trans (hb1.mono (by simp)); have k0 := (hb1.cell (p := ⟨w.heap.size, 0, none⟩) (by simp)).trans (show _ = some (.int .i64 b) by rw [World.cell?, heap_new]; rfl); have k1 := (hb1.cell (p := ⟨w.heap.size, 1, none⟩) (by simp)).trans (show _ = some (.bool s) by rw [World.cell?, heap_new]; rfl); have k2 := (hb1.cell (p := ⟨w.heap.size, 2, none⟩) (by simp)).trans (show _ = some (.bool d) by rw [World.cell?, heap_new]; rfl); have hz := hb1.size; rw [World.size_alloc] at hz; clear hb1) | (go_at_call 22; refine (KN.out _).mono ?_; rintro e w2 ⟨rfl, rfl⟩) | (go_at_call 29; refine (KM.out _).mono ?_; rintro e w3 ⟨rfl, hb3⟩; have k0 := (hb3.cell (p := ⟨w.heap.size, 0, none⟩) (by dsimp only; omega)).trans k0))
      go_ret2
      exact ⟨by rw [E.out]; rfl, hB1.trans (hb3.mono hB1.size)⟩

set_option maxHeartbeats 1000000 in
theorem refStart_any (b : Int) (s d : Bool) (n : Int) (w : World) :
    Calls Try.prog 17 #[.agg #[.int .i64 b, .bool s, .bool d], .int .i64 n] w fun e w' => e = .returned (.tuple #[.int .i64 (startR b s d n).1, .int .i64 (startR b s d n).2]) ∧ Below w.heap.size w w' := by
  have KC := hide (fun w => refCheck_any b s d w)
  have KM := hide (fun w => length_any b s d w)
  have KN := hide (fun w => frameN_any n w)
  cases ho : okR b s d
  · rw [chkR_bad ho] at KC
    have E := hide (show startR b s d n = (0, 140) by unfold startR; rw [ho]; rfl)
    clear ho
    go_enter Try.func17, Try.ntmps17
    go_wp2_with (go_at_call 15; refine (KC.out _).mono ?_; rintro e w1 ⟨rfl, hb1⟩)
    go_ret2
    exact ⟨by rw [E.out]; rfl, ((Below.refl _ _).alloc (Nat.le_refl _) _).trans (hb1.mono (by simp))⟩
  · obtain ⟨b1, b2⟩ := okR_pos ho
    rw [chkR_ok ho] at KC
    cases hn : numB n
    · rw [hn] at KN
      have E := hide (show startR b s d n = (0, 1) by unfold startR; rw [ho, hn]; rfl)
      clear ho hn
      go_enter Try.func17, Try.ntmps17
      go_wp2_with (first | (go_at_call 15; refine (KC.out _).mono ?_; rintro e w1 ⟨rfl, hb1⟩) | (go_at_call 25; refine (KN.out _).mono ?_; rintro e w2 ⟨rfl, rfl⟩))
      go_ret2
      exact ⟨by rw [E.out]; rfl, ((Below.refl _ _).alloc (Nat.le_refl _) _).trans (hb1.mono (by simp))⟩
    · rw [hn] at KN
      have E := hide (show startR b s d n = ((n * msR s + b - 1) / b, 0) by unfold startR; rw [ho, hn]; rfl)
      obtain ⟨n1, n2⟩ : 0 ≤ n ∧ n < 1073741824 := by simpa [numB] using hn
      clear ho hn
      have hM : 1000 ≤ msR s ∧ msR s ≤ 1001 := by unfold msR; split <;> omega
      generalize msR s = M at KM hM E
      obtain ⟨m1, m2⟩ := hM
      have e1 : 0 ≤ n * M := Int.mul_nonneg n1 (by omega)
      have e2 : n * M ≤ 1073741824 * 1001 := Int.mul_le_mul (by omega) m2 (by omega) (by omega)
      go_enter Try.func17, Try.ntmps17
      go_wp2_with (first | (go_at_call 15; refine (KC.out _).mono ?_; rintro e w1 ⟨rfl, hb1⟩; have hB1 := ((Below.refl w.heap.size w).alloc (Nat.le_refl _) (Obj.cells #[.int .i64 b, .bool s, .bool d] 23)).trans (hb1.mono (by simp)); have k0 := (hb1.cell (p := ⟨w.heap.size, 0, none⟩) (by simp)).trans (show _ = some (.int .i64 b) by rw [World.cell?, heap_new]; rfl); have k1 := (hb1.cell (p := ⟨w.heap.size, 1, none⟩) (by simp)).trans (show _ = some (.bool s) by rw [World.cell?, heap_new]; rfl); have k2 := (hb1.cell (p := ⟨w.heap.size, 2, none⟩) (by simp)).trans (show _ = some (.bool d) by rw [World.cell?, heap_new]; rfl); have hz := hb1.size; rw [World.size_alloc] at hz; clear hb1) | (go_at_call 25; refine (KN.out _).mono ?_; rintro e w2 ⟨rfl, rfl⟩))
      have hlt : w.heap.size < w1.heap.size := by omega
      have c0 := BW.get hlt k0
      have c1 := BW.get hlt k1
      have c2 := BW.get hlt k2
      clear k0 k1 k2
      refine wp_quiet_below (by kernel_rfl) (by kernel_rfl) ?_
      repeat (go_big_quiet_step ((go_at_call 30; exact quiet_below (KM.out _))))
      refine wpQuiet_nil ?_
      rintro _ ⟨x, rfl⟩
      have hx := x.below
      go_wp2
      go_ret2
      exact ⟨by rw [E.out]; rfl, hB1.trans (hx.mono hB1.size)⟩

set_option maxHeartbeats 2000000 in
theorem At_any (b : Int) (s d : Bool) (t : Int) (w : World) :
    Calls Try.prog 18 #[.agg #[.int .i64 b, .bool s, .bool d], .int .i64 t] w fun e w' => e = .returned (.tuple #[.int .i64 (atR b s d t).1, .int .i64 (atR b s d t).2]) ∧ Below w.heap.size w w' := by
  have KC := hide (fun w => fcheck_any b s d w)
  have KM := hide (fun w => ms_any b s d w)
  cases ho : okR b s d
  · rw [chkR_bad ho] at KC
    have E := hide (show atR b s d t = (0, 140) by unfold atR; rw [ho]; rfl)
    clear ho
    go_enter Try.func18, Try.ntmps18
    go_wp2_with (go_at_call 14; refine (KC.out _).mono ?_; rintro e w1 ⟨rfl, hb1⟩)
    go_ret2
    exact ⟨by rw [E.out]; rfl, ((Below.refl _ _).alloc (Nat.le_refl _) _).trans (hb1.mono (by simp))⟩
  · obtain ⟨b1, b2⟩ := okR_pos ho
    rw [chkR_ok ho] at KC
    by_cases ht : 0 ≤ t ∧ t < 1099511627776
    · obtain ⟨t1, t2⟩ := ht
      have hM : 1000 ≤ msR s ∧ msR s ≤ 1001 := by unfold msR; split <;> omega
      have e1 : 0 ≤ t * b := Int.mul_nonneg t1 (by omega)
      have e2 : t * b ≤ 1099511627776 * 60 := Int.mul_le_mul (by omega) b2 (by omega) (by omega)
      have KN := hide (fun w => numbered_any (t * b / msR s) w)
      have E := hide (show atR b s d t = if numB (t * b / msR s) = true then (t * b / msR s, 0) else (0, 2) by unfold atR; rw [ho, if_pos rfl, if_pos ⟨t1, t2⟩])
      generalize msR s = M at KM hM E KN
      obtain ⟨m1, m2⟩ := hM
      clear ho
      cases hn : numB (t * b / M)
      all_goals
        rw [hn] at KN E
        clear hn
        go_enter Try.func18, Try.ntmps18
        go_wp2_with (first | (go_at_call 14; refine (KC.out _).mono ?_; rintro e w1 ⟨rfl, hb1⟩; have hB1 := ((Below.refl w.heap.size w).alloc (Nat.le_refl _) (Obj.cells #[.int .i64 b, .bool s, .bool d] 23)).trans (hb1.mono (by simp)); have k0 := (hb1.cell (p := ⟨w.heap.size, 0, none⟩) (by simp)).trans (show _ = some (.int .i64 b) by rw [World.cell?, heap_new]; rfl); have k1 := (hb1.cell (p := ⟨w.heap.size, 1, none⟩) (by simp)).trans (show _ = some (.bool s) by rw [World.cell?, heap_new]; rfl); have k2 := (hb1.cell (p := ⟨w.heap.size, 2, none⟩) (by simp)).trans (show _ = some (.bool d) by rw [World.cell?, heap_new]; rfl); have hz := hb1.size; rw [World.size_alloc] at hz; clear hb1))
        have hlt : w.heap.size < w1.heap.size := by omega
        have c0 := BW.get hlt k0
        have c1 := BW.get hlt k1
        have c2 := BW.get hlt k2
        clear k0 k1 k2
        refine wp_quiet_below (by kernel_rfl) (by kernel_rfl) ?_
        repeat (go_big_quiet_step ((go_at_call 29; exact quiet_below (KM.out _))))
        refine wpQuiet_nil ?_
        rintro _ ⟨x, rfl⟩
        have hx := x.below
        go_wp2_with (go_at_call 22; refine (KN.out _).mono ?_; rintro e w2 ⟨rfl, rfl⟩)
        go_ret2
        exact ⟨by rw [E.out]; rfl, hB1.trans (hx.mono hB1.size)⟩
    · have E := hide (show atR b s d t = (0, 1) by unfold atR; rw [ho, if_pos rfl, if_neg ht])
      clear ho
      by_cases t1 : t < 0
      · clear ht
        go_enter Try.func18, Try.ntmps18
        go_wp2_with (go_at_call 14; refine (KC.out _).mono ?_; rintro e w1 ⟨rfl, hb1⟩)
        go_ret2
        exact ⟨by rw [E.out]; rfl, ((Below.refl _ _).alloc (Nat.le_refl _) _).trans (hb1.mono (by simp))⟩
      · have t2 : 1099511627776 ≤ t := by omega
        clear ht
        go_enter Try.func18, Try.ntmps18
        go_wp2_with (go_at_call 14; refine (KC.out _).mono ?_; rintro e w1 ⟨rfl, hb1⟩)
        go_ret2
        exact ⟨by rw [E.out]; rfl, ((Below.refl _ _).alloc (Nat.le_refl _) _).trans (hb1.mono (by simp))⟩

set_option maxHeartbeats 2000000 in
theorem refAt_any (b : Int) (s d : Bool) (t : Int) (w : World) :
    Calls Try.prog 19 #[.agg #[.int .i64 b, .bool s, .bool d], .int .i64 t] w fun e w' => e = .returned (.tuple #[.int .i64 (atR b s d t).1, .int .i64 (atR b s d t).2]) ∧ Below w.heap.size w w' := by
  have KC := hide (fun w => refCheck_any b s d w)
  have KM := hide (fun w => length_any b s d w)
  cases ho : okR b s d
  · rw [chkR_bad ho] at KC
    have E := hide (show atR b s d t = (0, 140) by unfold atR; rw [ho]; rfl)
    clear ho
    go_enter Try.func19, Try.ntmps19
    go_wp2_with (go_at_call 15; refine (KC.out _).mono ?_; rintro e w1 ⟨rfl, hb1⟩)
    go_ret2
    exact ⟨by rw [E.out]; rfl, ((Below.refl _ _).alloc (Nat.le_refl _) _).trans (hb1.mono (by simp))⟩
  · obtain ⟨b1, b2⟩ := okR_pos ho
    rw [chkR_ok ho] at KC
    by_cases ht : 0 ≤ t ∧ t < 1099511627776
    · obtain ⟨t1, t2⟩ := ht
      have hM : 1000 ≤ msR s ∧ msR s ≤ 1001 := by unfold msR; split <;> omega
      have e1 : 0 ≤ t * b := Int.mul_nonneg t1 (by omega)
      have e2 : t * b ≤ 1099511627776 * 60 := Int.mul_le_mul (by omega) b2 (by omega) (by omega)
      have KN := hide (fun w => frameN_any (t * b / msR s) w)
      have E := hide (show atR b s d t = if numB (t * b / msR s) = true then (t * b / msR s, 0) else (0, 2) by unfold atR; rw [ho, if_pos rfl, if_pos ⟨t1, t2⟩])
      generalize msR s = M at KM hM E KN
      obtain ⟨m1, m2⟩ := hM
      clear ho
      cases hn : numB (t * b / M)
      all_goals
        rw [hn] at KN E
        clear hn
        go_enter Try.func19, Try.ntmps19
        go_wp2_with (first | (go_at_call 15; refine (KC.out _).mono ?_; rintro e w1 ⟨rfl, hb1⟩; have hB1 := ((Below.refl w.heap.size w).alloc (Nat.le_refl _) (Obj.cells #[.int .i64 b, .bool s, .bool d] 23)).trans (hb1.mono (by simp)); have k0 := (hb1.cell (p := ⟨w.heap.size, 0, none⟩) (by simp)).trans (show _ = some (.int .i64 b) by rw [World.cell?, heap_new]; rfl); have k1 := (hb1.cell (p := ⟨w.heap.size, 1, none⟩) (by simp)).trans (show _ = some (.bool s) by rw [World.cell?, heap_new]; rfl); have k2 := (hb1.cell (p := ⟨w.heap.size, 2, none⟩) (by simp)).trans (show _ = some (.bool d) by rw [World.cell?, heap_new]; rfl); have hz := hb1.size; rw [World.size_alloc] at hz; clear hb1))
        have hlt : w.heap.size < w1.heap.size := by omega
        have c0 := BW.get hlt k0
        have c1 := BW.get hlt k1
        have c2 := BW.get hlt k2
        clear k0 k1 k2
        refine wp_quiet_below (by kernel_rfl) (by kernel_rfl) ?_
        repeat (go_big_quiet_step ((go_at_call 30; exact quiet_below (KM.out _))))
        refine wpQuiet_nil ?_
        rintro _ ⟨x, rfl⟩
        have hx := x.below
        go_wp2_with (go_at_call 25; refine (KN.out _).mono ?_; rintro e w2 ⟨rfl, rfl⟩)
        go_ret2
        exact ⟨by rw [E.out]; rfl, hB1.trans (hx.mono hB1.size)⟩
    · have E := hide (show atR b s d t = (0, 1) by unfold atR; rw [ho, if_pos rfl, if_neg ht])
      clear ho
      by_cases t1 : t < 0
      · clear ht
        go_enter Try.func19, Try.ntmps19
        go_wp2_with (go_at_call 15; refine (KC.out _).mono ?_; rintro e w1 ⟨rfl, hb1⟩)
        go_ret2
        exact ⟨by rw [E.out]; rfl, ((Below.refl _ _).alloc (Nat.le_refl _) _).trans (hb1.mono (by simp))⟩
      · have t2 : 1099511627776 ≤ t := by omega
        clear ht
        go_enter Try.func19, Try.ntmps19
        go_wp2_with (go_at_call 15; refine (KC.out _).mono ?_; rintro e w1 ⟨rfl, hb1⟩)
        go_ret2
        exact ⟨by rw [E.out]; rfl, ((Below.refl _ _).alloc (Nat.le_refl _) _).trans (hb1.mono (by simp))⟩
end Go.Proofs.Ytbifppncjplebaa

/-
  Layer 14 (frames): sane returns true.
-/
import Derived.Test.YtbifppncjplebaaFRefLabel
namespace Go.Proofs.Ytbifppncjplebaa
open Go.RowKit Go.Mine

theorem st4 (w : World) (v0 v1 v2 v3 : Value) :
    (w.alloc (.cells #[v0, v1, v2, v3] 25)).heap.size = w.heap.size + 1 ∧ (w.alloc (.cells #[v0, v1, v2, v3] 25)).heap[w.heap.size]? = some (.cells #[v0, v1, v2, v3] 25 (0, 0)) ∧
    Below w.heap.size w (w.alloc (.cells #[v0, v1, v2, v3] 25)) := ⟨by simp, heap_new _ _, (Below.refl _ _).alloc (Nat.le_refl _) _⟩

theorem lit_k21 (w : World) : Calls Try.prog 21 #[] w fun e w' => e = .returned (.agg #[.int .i64 30, .bool true, .bool true]) ∧ Below w.heap.size w w' := drop_any w
theorem lit_c10a (w : World) : Calls Try.prog 10 #[.agg #[.int .i64 30, .bool true, .bool true], .int .i64 1799] w fun e w' => e = .returned (.tuple #[.agg #[.int .i64 0, .int .i64 0, .int .i64 59, .int .i64 29], .int .i64 0]) ∧ Below w.heap.size w w' := by
  have h := Label_any 30 true true 1799 w
  rw [show labelR 30 true true 1799 = (⟨0, 0, 59, 29⟩, 0) from by decide] at h
  exact h
theorem lit_c10b (w : World) : Calls Try.prog 10 #[.agg #[.int .i64 30, .bool true, .bool true], .int .i64 1800] w fun e w' => e = .returned (.tuple #[.agg #[.int .i64 0, .int .i64 1, .int .i64 0, .int .i64 2], .int .i64 0]) ∧ Below w.heap.size w w' := by
  have h := Label_any 30 true true 1800 w
  rw [show labelR 30 true true 1800 = (⟨0, 1, 0, 2⟩, 0) from by decide] at h
  exact h
theorem lit_c12a (w : World) : Calls Try.prog 12 #[.agg #[.int .i64 30, .bool true, .bool true], .agg #[.int .i64 0, .int .i64 1, .int .i64 0, .int .i64 1]] w fun e w' => e = .returned (.tuple #[.int .i64 0, .int .i64 140]) ∧ Below w.heap.size w w' := by
  have h := Frame_any 30 true true 0 1 0 1 w
  rw [show frameR 30 true true 0 1 0 1 = (0, 140) from by decide] at h
  exact h
theorem lit_c12b (w : World) : Calls Try.prog 12 #[.agg #[.int .i64 30, .bool true, .bool true], .agg #[.int .i64 0, .int .i64 10, .int .i64 0, .int .i64 0]] w fun e w' => e = .returned (.tuple #[.int .i64 17982, .int .i64 0]) ∧ Below w.heap.size w w' := by
  have h := Frame_any 30 true true 0 10 0 0 w
  rw [show frameR 30 true true 0 10 0 0 = (17982, 0) from by decide] at h
  exact h
theorem lit_c16a (w : World) : Calls Try.prog 16 #[.agg #[.int .i64 24, .bool false, .bool false], .int .i64 1] w fun e w' => e = .returned (.tuple #[.int .i64 42, .int .i64 0]) ∧ Below w.heap.size w w' := by
  have h := Start_any 24 false false 1 w
  rw [show startR 24 false false 1 = (42, 0) from by decide] at h
  exact h
theorem lit_c18 (w : World) : Calls Try.prog 18 #[.agg #[.int .i64 24, .bool false, .bool false], .int .i64 41] w fun e w' => e = .returned (.tuple #[.int .i64 0, .int .i64 0]) ∧ Below w.heap.size w w' := by
  have h := At_any 24 false false 41 w
  rw [show atR 24 false false 41 = (0, 0) from by decide] at h
  exact h
theorem lit_c16b (w : World) : Calls Try.prog 16 #[.agg #[.int .i64 30, .bool true, .bool false], .int .i64 30] w fun e w' => e = .returned (.tuple #[.int .i64 1001, .int .i64 0]) ∧ Below w.heap.size w w' := by
  have h := Start_any 30 true false 30 w
  rw [show startR 30 true false 30 = (1001, 0) from by decide] at h
  exact h
theorem lit_c10c (w : World) : Calls Try.prog 10 #[.agg #[.int .i64 25, .bool false, .bool false], .int .i64 (-1)] w fun e w' => e = .returned (.tuple #[.agg #[.int .i64 0, .int .i64 0, .int .i64 0, .int .i64 0], .int .i64 1]) ∧ Below w.heap.size w w' := by
  have h := Label_any 25 false false (-1) w
  rw [show labelR 25 false false (-1) = (⟨0, 0, 0, 0⟩, 1) from by decide] at h
  exact h
theorem lit_c12c (w : World) : Calls Try.prog 12 #[.agg #[.int .i64 25, .bool false, .bool false], .agg #[.int .i64 2147483648, .int .i64 0, .int .i64 0, .int .i64 0]] w fun e w' => e = .returned (.tuple #[.int .i64 0, .int .i64 2]) ∧ Below w.heap.size w w' := by
  have h := Frame_any 25 false false 2147483648 0 0 0 w
  rw [show frameR 25 false false 2147483648 0 0 0 = (0, 2) from by decide] at h
  exact h
theorem lit_c14a (w : World) : Calls Try.prog 14 #[.agg #[.int .i64 25, .bool true, .bool false]] w fun e w' => e = .returned (.int .i64 140) ∧ Below w.heap.size w w' := by
  have h := fcheck_any 25 true false w
  rw [show chkR 25 true false = 140 from by decide] at h
  exact h
theorem lit_c14b (w : World) : Calls Try.prog 14 #[.agg #[.int .i64 30, .bool true, .bool true]] w fun e w' => e = .returned (.int .i64 0) ∧ Below w.heap.size w w' := by
  have h := fcheck_any 30 true true w
  rw [show chkR 30 true true = 0 from by decide] at h
  exact h

set_option maxRecDepth 100000 in
set_option maxHeartbeats 4000000 in
theorem sane_any (w : World) : Calls Try.prog 9 #[] w fun e w' => e = .returned (.bool true) ∧ Below w.heap.size w w' := by
  have hB0 := Below.refl w.heap.size w
  have hN0 : w.heap.size ≤ w.heap.size := Nat.le_refl _
  go_enter Try.func9, Try.ntmps9
  go_wp2_with fail
  refine (lit_k21 _).mono ?_
  rintro e w1 ⟨rfl, hb1⟩
  have hB1 := hB0.trans (hb1.mono hN0)
  have hN1 := hB1.size
  clear hb1 hB0
  go_wp2_with fail
  refine (lit_c10a _).mono ?_
  rintro e w2 ⟨rfl, hb2⟩
  have hB2 := hB1.trans (hb2.mono hN1)
  have hN2 := hB2.size
  clear hb2 hB1
  go_wp2_with fail
  refine (lit_k21 _).mono ?_
  rintro e w3 ⟨rfl, hb3⟩
  obtain ⟨s1, s2, s3⟩ := st4 w2 (.int .i64 0) (.int .i64 0) (.int .i64 59) (.int .i64 29)
  have hs := hb3.size
  have hB3 := (hB2.trans (s3.mono hN2)).trans (hb3.mono (by rw [s1]; omega))
  have a1 := hide ((hb3.block _ (by rw [s1]; omega)).trans s2)
  have za1 : w2.heap.size < w3.heap.size := by rw [s1] at hs; omega
  clear s1 s2 s3 hs
  have hN3 := hB3.size
  clear hb3 hB2
  go_wp2_with fail
  refine (lit_c10b _).mono ?_
  rintro e w4 ⟨rfl, hb4⟩
  have hB4 := hB3.trans (hb4.mono hN3)
  replace a1 := hide ((hb4.block _ za1).trans a1.out)
  have hs := hb4.size
  replace za1 := Nat.lt_of_lt_of_le za1 hs
  clear hs
  have hN4 := hB4.size
  clear hb4 hB3
  go_wp2_with fail
  refine (lit_k21 _).mono ?_
  rintro e w5 ⟨rfl, hb5⟩
  obtain ⟨s1, s2, s3⟩ := st4 w4 (.int .i64 0) (.int .i64 1) (.int .i64 0) (.int .i64 2)
  have hs := hb5.size
  have hB5 := (hB4.trans (s3.mono hN4)).trans (hb5.mono (by rw [s1]; omega))
  replace a1 := hide (((hb5.block _ (by rw [s1]; omega)).trans (s3.block _ za1)).trans a1.out)
  replace za1 : w2.heap.size < w5.heap.size := by rw [s1] at hs; omega
  have a2 := hide ((hb5.block _ (by rw [s1]; omega)).trans s2)
  have za2 : w4.heap.size < w5.heap.size := by rw [s1] at hs; omega
  clear s1 s2 s3 hs
  have hN5 := hB5.size
  clear hb5 hB4
  go_wp2_with fail
  refine (lit_c12a _).mono ?_
  rintro e w6 ⟨rfl, hb6⟩
  have hB6 := hB5.trans (hb6.mono hN5)
  replace a1 := hide ((hb6.block _ za1).trans a1.out)
  replace a2 := hide ((hb6.block _ za2).trans a2.out)
  have hs := hb6.size
  replace za1 := Nat.lt_of_lt_of_le za1 hs
  replace za2 := Nat.lt_of_lt_of_le za2 hs
  clear hs
  have hN6 := hB6.size
  clear hb6 hB5
  go_wp2_with fail
  refine (lit_k21 _).mono ?_
  rintro e w7 ⟨rfl, hb7⟩
  have hB7 := hB6.trans (hb7.mono hN6)
  replace a1 := hide ((hb7.block _ za1).trans a1.out)
  replace a2 := hide ((hb7.block _ za2).trans a2.out)
  have hs := hb7.size
  replace za1 := Nat.lt_of_lt_of_le za1 hs
  replace za2 := Nat.lt_of_lt_of_le za2 hs
  clear hs
  have hN7 := hB7.size
  clear hb7 hB6
  go_wp2_with fail
  refine (lit_c12b _).mono ?_
  rintro e w8 ⟨rfl, hb8⟩
  have hB8 := hB7.trans (hb8.mono hN7)
  replace a1 := hide ((hb8.block _ za1).trans a1.out)
  replace a2 := hide ((hb8.block _ za2).trans a2.out)
  have hs := hb8.size
  replace za1 := Nat.lt_of_lt_of_le za1 hs
  replace za2 := Nat.lt_of_lt_of_le za2 hs
  clear hs
  have hN8 := hB8.size
  clear hb8 hB7
  go_wp2_with fail
  refine (lit_c16a _).mono ?_
  rintro e w9 ⟨rfl, hb9⟩
  have hB9 := hB8.trans (hb9.mono hN8)
  replace a1 := hide ((hb9.block _ za1).trans a1.out)
  replace a2 := hide ((hb9.block _ za2).trans a2.out)
  have hs := hb9.size
  replace za1 := Nat.lt_of_lt_of_le za1 hs
  replace za2 := Nat.lt_of_lt_of_le za2 hs
  clear hs
  have hN9 := hB9.size
  clear hb9 hB8
  go_wp2_with fail
  refine (lit_c18 _).mono ?_
  rintro e w10 ⟨rfl, hb10⟩
  have hB10 := hB9.trans (hb10.mono hN9)
  replace a1 := hide ((hb10.block _ za1).trans a1.out)
  replace a2 := hide ((hb10.block _ za2).trans a2.out)
  have hs := hb10.size
  replace za1 := Nat.lt_of_lt_of_le za1 hs
  replace za2 := Nat.lt_of_lt_of_le za2 hs
  clear hs
  have hN10 := hB10.size
  clear hb10 hB9
  go_wp2_with fail
  refine (lit_c16b _).mono ?_
  rintro e w11 ⟨rfl, hb11⟩
  have hB11 := hB10.trans (hb11.mono hN10)
  replace a1 := hide ((hb11.block _ za1).trans a1.out)
  replace a2 := hide ((hb11.block _ za2).trans a2.out)
  have hs := hb11.size
  replace za1 := Nat.lt_of_lt_of_le za1 hs
  replace za2 := Nat.lt_of_lt_of_le za2 hs
  clear hs
  have hN11 := hB11.size
  clear hb11 hB10
  go_wp2_with fail
  refine (lit_c10c _).mono ?_
  rintro e w12 ⟨rfl, hb12⟩
  have hB12 := hB11.trans (hb12.mono hN11)
  replace a1 := hide ((hb12.block _ za1).trans a1.out)
  replace a2 := hide ((hb12.block _ za2).trans a2.out)
  have hs := hb12.size
  replace za1 := Nat.lt_of_lt_of_le za1 hs
  replace za2 := Nat.lt_of_lt_of_le za2 hs
  clear hs
  have hN12 := hB12.size
  clear hb12 hB11
  go_wp2_with fail
  refine (lit_c12c _).mono ?_
  rintro e w13 ⟨rfl, hb13⟩
  obtain ⟨s1, s2, s3⟩ := st4 w12 (.int .i64 0) (.int .i64 0) (.int .i64 0) (.int .i64 0)
  have hs := hb13.size
  have hB13 := (hB12.trans (s3.mono hN12)).trans (hb13.mono (by rw [s1]; omega))
  replace a1 := hide (((hb13.block _ (by rw [s1]; omega)).trans (s3.block _ za1)).trans a1.out)
  replace za1 : w2.heap.size < w13.heap.size := by rw [s1] at hs; omega
  replace a2 := hide (((hb13.block _ (by rw [s1]; omega)).trans (s3.block _ za2)).trans a2.out)
  replace za2 : w4.heap.size < w13.heap.size := by rw [s1] at hs; omega
  have a3 := hide ((hb13.block _ (by rw [s1]; omega)).trans s2)
  have za3 : w12.heap.size < w13.heap.size := by rw [s1] at hs; omega
  clear s1 s2 s3 hs
  have hN13 := hB13.size
  clear hb13 hB12
  have x0 := heap_cell (v := .int .i64 0) (i := 0) a1.out rfl
  have x1 := heap_cell (v := .int .i64 0) (i := 1) a1.out rfl
  have x2 := heap_cell (v := .int .i64 59) (i := 2) a1.out rfl
  have x3 := heap_cell (v := .int .i64 29) (i := 3) a1.out rfl
  have y0 := heap_cell (v := .int .i64 0) (i := 0) a2.out rfl
  have y1 := heap_cell (v := .int .i64 1) (i := 1) a2.out rfl
  have y2 := heap_cell (v := .int .i64 0) (i := 2) a2.out rfl
  have y3 := heap_cell (v := .int .i64 2) (i := 3) a2.out rfl
  go_wp2_with fail
  refine (lit_c14a _).mono ?_
  rintro e w14 ⟨rfl, hb14⟩
  have hB14 := hB13.trans (hb14.mono hN13)
  replace a1 := hide ((hb14.block _ za1).trans a1.out)
  replace a2 := hide ((hb14.block _ za2).trans a2.out)
  replace a3 := hide ((hb14.block _ za3).trans a3.out)
  have hs := hb14.size
  replace za1 := Nat.lt_of_lt_of_le za1 hs
  replace za2 := Nat.lt_of_lt_of_le za2 hs
  replace za3 := Nat.lt_of_lt_of_le za3 hs
  clear hs
  have hN14 := hB14.size
  clear hb14 hB13
  go_wp2_with fail
  refine (lit_k21 _).mono ?_
  rintro e w15 ⟨rfl, hb15⟩
  have hB15 := hB14.trans (hb15.mono hN14)
  replace a1 := hide ((hb15.block _ za1).trans a1.out)
  replace a2 := hide ((hb15.block _ za2).trans a2.out)
  replace a3 := hide ((hb15.block _ za3).trans a3.out)
  have hs := hb15.size
  replace za1 := Nat.lt_of_lt_of_le za1 hs
  replace za2 := Nat.lt_of_lt_of_le za2 hs
  replace za3 := Nat.lt_of_lt_of_le za3 hs
  clear hs
  have hN15 := hB15.size
  clear hb15 hB14
  go_wp2_with fail
  refine (lit_c14b _).mono ?_
  rintro e w16 ⟨rfl, hb16⟩
  have hB16 := hB15.trans (hb16.mono hN15)
  replace a1 := hide ((hb16.block _ za1).trans a1.out)
  replace a2 := hide ((hb16.block _ za2).trans a2.out)
  replace a3 := hide ((hb16.block _ za3).trans a3.out)
  have hs := hb16.size
  replace za1 := Nat.lt_of_lt_of_le za1 hs
  replace za2 := Nat.lt_of_lt_of_le za2 hs
  replace za3 := Nat.lt_of_lt_of_le za3 hs
  clear hs
  have hN16 := hB16.size
  clear hb16 hB15
  go_wp2
  go_ret
  exact ⟨rfl, hB16⟩
end Go.Proofs.Ytbifppncjplebaa

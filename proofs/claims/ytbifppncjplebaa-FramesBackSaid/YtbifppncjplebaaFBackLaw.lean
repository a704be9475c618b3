/-
  FramesBack: its walk: true, whatever the input.
-/
import Derived.Test.YtbifppncjplebaaFPure2
import Derived.Test.YtbifppncjplebaaBlk
namespace Go.Proofs.Ytbifppncjplebaa
open Go.RowKit Go.Mine

set_option maxRecDepth 100000 in
set_option maxHeartbeats 4000000 in
theorem back_bad (b : Int) (s d : Bool) (n n2 h m sc f : Int) (w : World) (ho : okR b s d = false) :
    Calls Try.prog 5 #[.agg #[.int .i64 b, .bool s, .bool d], .int .i64 n, .int .i64 n2, .agg #[.int .i64 h, .int .i64 m, .int .i64 sc, .int .i64 f]] w fun e w' => e = .returned (.bool true) ∧ Below w.heap.size w w' := by
  have hB0 := Below.refl w.heap.size w
  have K9 := hide sane_any
  have K15 := hide (fun w => refCheck_any b s d w)
  rw [chkR_bad ho] at K15
  clear ho
  go_enter Try.func5, Try.ntmps5
  go_wp2_with fail
  refine (K9.out _).mono ?_
  rintro e w1 ⟨rfl, hb⟩
  have hB1 := kcall (kalloc (kalloc hB0 _) _) hb
  have r := ((Blk.new _ #[.int .i64 b, .bool s, .bool d] 23).alloc _).bel hb
  have x := (Blk.new1 _ _ #[.int .i64 h, .int .i64 m, .int .i64 sc, .int .i64 f] 25).bel hb
  clear hb hB0
  have r_l := r.lt
  have r_0 := r.cell (v := .int .i64 b) 0 rfl
  have r_1 := r.cell (v := .bool s) 1 rfl
  have r_2 := r.cell (v := .bool d) 2 rfl
  have x_l := x.lt
  have x_0 := x.cell (v := .int .i64 h) 0 rfl
  have x_1 := x.cell (v := .int .i64 m) 1 rfl
  have x_2 := x.cell (v := .int .i64 sc) 2 rfl
  have x_3 := x.cell (v := .int .i64 f) 3 rfl
  go_wp2_with fail
  refine (K15.out _).mono ?_
  rintro e w2 ⟨rfl, hb⟩
  have hB2 := kcall hB1 hb
  replace r := r.bel hb
  replace x := x.bel hb
  clear hb hB1
  have r_l := r.lt
  have r_0 := r.cell (v := .int .i64 b) 0 rfl
  have r_1 := r.cell (v := .bool s) 1 rfl
  have r_2 := r.cell (v := .bool d) 2 rfl
  have x_l := x.lt
  have x_0 := x.cell (v := .int .i64 h) 0 rfl
  have x_1 := x.cell (v := .int .i64 m) 1 rfl
  have x_2 := x.cell (v := .int .i64 sc) 2 rfl
  have x_3 := x.cell (v := .int .i64 f) 3 rfl
  go_wp2
  go_ret
  exact ⟨rfl, hB2⟩
set_option maxRecDepth 100000 in
set_option maxHeartbeats 4000000 in
theorem back_e0_0 (b : Int) (s d : Bool) (n n2 h m sc f : Int) (w : World) (ho : okR b s d = true) (he : (frameR b s d h m sc f).2 = 0) (hr : n < 0) :
    Calls Try.prog 5 #[.agg #[.int .i64 b, .bool s, .bool d], .int .i64 n, .int .i64 n2, .agg #[.int .i64 h, .int .i64 m, .int .i64 sc, .int .i64 f]] w fun e w' => e = .returned (.bool true) ∧ Below w.heap.size w w' := by
  have hB0 := Below.refl w.heap.size w
  have K9 := hide sane_any
  have K15 := hide (fun w => refCheck_any b s d w)
  rw [chkR_ok ho] at K15
  have K12 := hide (fun w => Frame_any b s d h m sc f w)
  have KL := hide (fun w => Label_any b s d (frameR b s d h m sc f).1 w)
  rw [frame_label ho he] at KL
  rw [he] at K12
  generalize (frameR b s d h m sc f).1 = k at K12 KL
  unfold Lb.v at KL
  dsimp only at KL
  clear he
  clear ho
  go_enter Try.func5, Try.ntmps5
  go_wp2_with fail
  refine (K9.out _).mono ?_
  rintro e w1 ⟨rfl, hb⟩
  have hB1 := kcall (kalloc (kalloc hB0 _) _) hb
  have r := ((Blk.new _ #[.int .i64 b, .bool s, .bool d] 23).alloc _).bel hb
  have x := (Blk.new1 _ _ #[.int .i64 h, .int .i64 m, .int .i64 sc, .int .i64 f] 25).bel hb
  clear hb hB0
  have r_l := r.lt
  have r_0 := r.cell (v := .int .i64 b) 0 rfl
  have r_1 := r.cell (v := .bool s) 1 rfl
  have r_2 := r.cell (v := .bool d) 2 rfl
  have x_l := x.lt
  have x_0 := x.cell (v := .int .i64 h) 0 rfl
  have x_1 := x.cell (v := .int .i64 m) 1 rfl
  have x_2 := x.cell (v := .int .i64 sc) 2 rfl
  have x_3 := x.cell (v := .int .i64 f) 3 rfl
  go_wp2_with fail
  refine (K15.out _).mono ?_
  rintro e w2 ⟨rfl, hb⟩
  have hB2 := kcall hB1 hb
  replace r := r.bel hb
  replace x := x.bel hb
  clear hb hB1
  have r_l := r.lt
  have r_0 := r.cell (v := .int .i64 b) 0 rfl
  have r_1 := r.cell (v := .bool s) 1 rfl
  have r_2 := r.cell (v := .bool d) 2 rfl
  have x_l := x.lt
  have x_0 := x.cell (v := .int .i64 h) 0 rfl
  have x_1 := x.cell (v := .int .i64 m) 1 rfl
  have x_2 := x.cell (v := .int .i64 sc) 2 rfl
  have x_3 := x.cell (v := .int .i64 f) 3 rfl
  go_wp2_with fail
  refine (K12.out _).mono ?_
  rintro e w3 ⟨rfl, hb⟩
  have hB3 := kcall hB2 hb
  replace r := r.bel hb
  replace x := x.bel hb
  clear hb hB2
  have r_l := r.lt
  have r_0 := r.cell (v := .int .i64 b) 0 rfl
  have r_1 := r.cell (v := .bool s) 1 rfl
  have r_2 := r.cell (v := .bool d) 2 rfl
  have x_l := x.lt
  have x_0 := x.cell (v := .int .i64 h) 0 rfl
  have x_1 := x.cell (v := .int .i64 m) 1 rfl
  have x_2 := x.cell (v := .int .i64 sc) 2 rfl
  have x_3 := x.cell (v := .int .i64 f) 3 rfl
  go_wp2_with fail
  refine (KL.out _).mono ?_
  rintro e w4 ⟨rfl, hb⟩
  have hB4 := kcall hB3 hb
  replace r := r.bel hb
  replace x := x.bel hb
  clear hb hB3
  have r_l := r.lt
  have r_0 := r.cell (v := .int .i64 b) 0 rfl
  have r_1 := r.cell (v := .bool s) 1 rfl
  have r_2 := r.cell (v := .bool d) 2 rfl
  have x_l := x.lt
  have x_0 := x.cell (v := .int .i64 h) 0 rfl
  have x_1 := x.cell (v := .int .i64 m) 1 rfl
  have x_2 := x.cell (v := .int .i64 sc) 2 rfl
  have x_3 := x.cell (v := .int .i64 f) 3 rfl
  go_wp2
  go_ret
  exact ⟨rfl, (kalloc hB4 _)⟩
set_option maxRecDepth 100000 in
set_option maxHeartbeats 4000000 in
theorem back_e140_0 (b : Int) (s d : Bool) (n n2 h m sc f : Int) (w : World) (ho : okR b s d = true) (he : (frameR b s d h m sc f).2 = 140) (hr : n < 0) :
    Calls Try.prog 5 #[.agg #[.int .i64 b, .bool s, .bool d], .int .i64 n, .int .i64 n2, .agg #[.int .i64 h, .int .i64 m, .int .i64 sc, .int .i64 f]] w fun e w' => e = .returned (.bool true) ∧ Below w.heap.size w w' := by
  have hB0 := Below.refl w.heap.size w
  have K9 := hide sane_any
  have K15 := hide (fun w => refCheck_any b s d w)
  rw [chkR_ok ho] at K15
  have K12 := hide (fun w => Frame_any b s d h m sc f w)
  generalize (frameR b s d h m sc f).1 = k at K12
  rw [he] at K12
  clear he
  clear ho
  go_enter Try.func5, Try.ntmps5
  go_wp2_with fail
  refine (K9.out _).mono ?_
  rintro e w1 ⟨rfl, hb⟩
  have hB1 := kcall (kalloc (kalloc hB0 _) _) hb
  have r := ((Blk.new _ #[.int .i64 b, .bool s, .bool d] 23).alloc _).bel hb
  have x := (Blk.new1 _ _ #[.int .i64 h, .int .i64 m, .int .i64 sc, .int .i64 f] 25).bel hb
  clear hb hB0
  have r_l := r.lt
  have r_0 := r.cell (v := .int .i64 b) 0 rfl
  have r_1 := r.cell (v := .bool s) 1 rfl
  have r_2 := r.cell (v := .bool d) 2 rfl
  have x_l := x.lt
  have x_0 := x.cell (v := .int .i64 h) 0 rfl
  have x_1 := x.cell (v := .int .i64 m) 1 rfl
  have x_2 := x.cell (v := .int .i64 sc) 2 rfl
  have x_3 := x.cell (v := .int .i64 f) 3 rfl
  go_wp2_with fail
  refine (K15.out _).mono ?_
  rintro e w2 ⟨rfl, hb⟩
  have hB2 := kcall hB1 hb
  replace r := r.bel hb
  replace x := x.bel hb
  clear hb hB1
  have r_l := r.lt
  have r_0 := r.cell (v := .int .i64 b) 0 rfl
  have r_1 := r.cell (v := .bool s) 1 rfl
  have r_2 := r.cell (v := .bool d) 2 rfl
  have x_l := x.lt
  have x_0 := x.cell (v := .int .i64 h) 0 rfl
  have x_1 := x.cell (v := .int .i64 m) 1 rfl
  have x_2 := x.cell (v := .int .i64 sc) 2 rfl
  have x_3 := x.cell (v := .int .i64 f) 3 rfl
  go_wp2_with fail
  refine (K12.out _).mono ?_
  rintro e w3 ⟨rfl, hb⟩
  have hB3 := kcall hB2 hb
  replace r := r.bel hb
  replace x := x.bel hb
  clear hb hB2
  have r_l := r.lt
  have r_0 := r.cell (v := .int .i64 b) 0 rfl
  have r_1 := r.cell (v := .bool s) 1 rfl
  have r_2 := r.cell (v := .bool d) 2 rfl
  have x_l := x.lt
  have x_0 := x.cell (v := .int .i64 h) 0 rfl
  have x_1 := x.cell (v := .int .i64 m) 1 rfl
  have x_2 := x.cell (v := .int .i64 sc) 2 rfl
  have x_3 := x.cell (v := .int .i64 f) 3 rfl
  go_wp2
  go_ret
  exact ⟨rfl, hB3⟩
set_option maxRecDepth 100000 in
set_option maxHeartbeats 4000000 in
theorem back_e2_0 (b : Int) (s d : Bool) (n n2 h m sc f : Int) (w : World) (ho : okR b s d = true) (he : (frameR b s d h m sc f).2 = 2) (hr : n < 0) :
    Calls Try.prog 5 #[.agg #[.int .i64 b, .bool s, .bool d], .int .i64 n, .int .i64 n2, .agg #[.int .i64 h, .int .i64 m, .int .i64 sc, .int .i64 f]] w fun e w' => e = .returned (.bool true) ∧ Below w.heap.size w w' := by
  have hB0 := Below.refl w.heap.size w
  have K9 := hide sane_any
  have K15 := hide (fun w => refCheck_any b s d w)
  rw [chkR_ok ho] at K15
  have K12 := hide (fun w => Frame_any b s d h m sc f w)
  generalize (frameR b s d h m sc f).1 = k at K12
  rw [he] at K12
  clear he
  clear ho
  go_enter Try.func5, Try.ntmps5
  go_wp2_with fail
  refine (K9.out _).mono ?_
  rintro e w1 ⟨rfl, hb⟩
  have hB1 := kcall (kalloc (kalloc hB0 _) _) hb
  have r := ((Blk.new _ #[.int .i64 b, .bool s, .bool d] 23).alloc _).bel hb
  have x := (Blk.new1 _ _ #[.int .i64 h, .int .i64 m, .int .i64 sc, .int .i64 f] 25).bel hb
  clear hb hB0
  have r_l := r.lt
  have r_0 := r.cell (v := .int .i64 b) 0 rfl
  have r_1 := r.cell (v := .bool s) 1 rfl
  have r_2 := r.cell (v := .bool d) 2 rfl
  have x_l := x.lt
  have x_0 := x.cell (v := .int .i64 h) 0 rfl
  have x_1 := x.cell (v := .int .i64 m) 1 rfl
  have x_2 := x.cell (v := .int .i64 sc) 2 rfl
  have x_3 := x.cell (v := .int .i64 f) 3 rfl
  go_wp2_with fail
  refine (K15.out _).mono ?_
  rintro e w2 ⟨rfl, hb⟩
  have hB2 := kcall hB1 hb
  replace r := r.bel hb
  replace x := x.bel hb
  clear hb hB1
  have r_l := r.lt
  have r_0 := r.cell (v := .int .i64 b) 0 rfl
  have r_1 := r.cell (v := .bool s) 1 rfl
  have r_2 := r.cell (v := .bool d) 2 rfl
  have x_l := x.lt
  have x_0 := x.cell (v := .int .i64 h) 0 rfl
  have x_1 := x.cell (v := .int .i64 m) 1 rfl
  have x_2 := x.cell (v := .int .i64 sc) 2 rfl
  have x_3 := x.cell (v := .int .i64 f) 3 rfl
  go_wp2_with fail
  refine (K12.out _).mono ?_
  rintro e w3 ⟨rfl, hb⟩
  have hB3 := kcall hB2 hb
  replace r := r.bel hb
  replace x := x.bel hb
  clear hb hB2
  have r_l := r.lt
  have r_0 := r.cell (v := .int .i64 b) 0 rfl
  have r_1 := r.cell (v := .bool s) 1 rfl
  have r_2 := r.cell (v := .bool d) 2 rfl
  have x_l := x.lt
  have x_0 := x.cell (v := .int .i64 h) 0 rfl
  have x_1 := x.cell (v := .int .i64 m) 1 rfl
  have x_2 := x.cell (v := .int .i64 sc) 2 rfl
  have x_3 := x.cell (v := .int .i64 f) 3 rfl
  go_wp2
  go_ret
  exact ⟨rfl, hB3⟩
set_option maxRecDepth 100000 in
set_option maxHeartbeats 4000000 in
theorem back_e0_1 (b : Int) (s d : Bool) (n n2 h m sc f : Int) (w : World) (ho : okR b s d = true) (he : (frameR b s d h m sc f).2 = 0) (h0 : ¬ n < 0) (hr : 1073741824 ≤ n) :
    Calls Try.prog 5 #[.agg #[.int .i64 b, .bool s, .bool d], .int .i64 n, .int .i64 n2, .agg #[.int .i64 h, .int .i64 m, .int .i64 sc, .int .i64 f]] w fun e w' => e = .returned (.bool true) ∧ Below w.heap.size w w' := by
  have hB0 := Below.refl w.heap.size w
  have K9 := hide sane_any
  have K15 := hide (fun w => refCheck_any b s d w)
  rw [chkR_ok ho] at K15
  have K12 := hide (fun w => Frame_any b s d h m sc f w)
  have KL := hide (fun w => Label_any b s d (frameR b s d h m sc f).1 w)
  rw [frame_label ho he] at KL
  rw [he] at K12
  generalize (frameR b s d h m sc f).1 = k at K12 KL
  unfold Lb.v at KL
  dsimp only at KL
  clear he
  clear ho
  go_enter Try.func5, Try.ntmps5
  go_wp2_with fail
  refine (K9.out _).mono ?_
  rintro e w1 ⟨rfl, hb⟩
  have hB1 := kcall (kalloc (kalloc hB0 _) _) hb
  have r := ((Blk.new _ #[.int .i64 b, .bool s, .bool d] 23).alloc _).bel hb
  have x := (Blk.new1 _ _ #[.int .i64 h, .int .i64 m, .int .i64 sc, .int .i64 f] 25).bel hb
  clear hb hB0
  have r_l := r.lt
  have r_0 := r.cell (v := .int .i64 b) 0 rfl
  have r_1 := r.cell (v := .bool s) 1 rfl
  have r_2 := r.cell (v := .bool d) 2 rfl
  have x_l := x.lt
  have x_0 := x.cell (v := .int .i64 h) 0 rfl
  have x_1 := x.cell (v := .int .i64 m) 1 rfl
  have x_2 := x.cell (v := .int .i64 sc) 2 rfl
  have x_3 := x.cell (v := .int .i64 f) 3 rfl
  go_wp2_with fail
  refine (K15.out _).mono ?_
  rintro e w2 ⟨rfl, hb⟩
  have hB2 := kcall hB1 hb
  replace r := r.bel hb
  replace x := x.bel hb
  clear hb hB1
  have r_l := r.lt
  have r_0 := r.cell (v := .int .i64 b) 0 rfl
  have r_1 := r.cell (v := .bool s) 1 rfl
  have r_2 := r.cell (v := .bool d) 2 rfl
  have x_l := x.lt
  have x_0 := x.cell (v := .int .i64 h) 0 rfl
  have x_1 := x.cell (v := .int .i64 m) 1 rfl
  have x_2 := x.cell (v := .int .i64 sc) 2 rfl
  have x_3 := x.cell (v := .int .i64 f) 3 rfl
  go_wp2_with fail
  refine (K12.out _).mono ?_
  rintro e w3 ⟨rfl, hb⟩
  have hB3 := kcall hB2 hb
  replace r := r.bel hb
  replace x := x.bel hb
  clear hb hB2
  have r_l := r.lt
  have r_0 := r.cell (v := .int .i64 b) 0 rfl
  have r_1 := r.cell (v := .bool s) 1 rfl
  have r_2 := r.cell (v := .bool d) 2 rfl
  have x_l := x.lt
  have x_0 := x.cell (v := .int .i64 h) 0 rfl
  have x_1 := x.cell (v := .int .i64 m) 1 rfl
  have x_2 := x.cell (v := .int .i64 sc) 2 rfl
  have x_3 := x.cell (v := .int .i64 f) 3 rfl
  go_wp2_with fail
  refine (KL.out _).mono ?_
  rintro e w4 ⟨rfl, hb⟩
  have hB4 := kcall hB3 hb
  replace r := r.bel hb
  replace x := x.bel hb
  clear hb hB3
  have r_l := r.lt
  have r_0 := r.cell (v := .int .i64 b) 0 rfl
  have r_1 := r.cell (v := .bool s) 1 rfl
  have r_2 := r.cell (v := .bool d) 2 rfl
  have x_l := x.lt
  have x_0 := x.cell (v := .int .i64 h) 0 rfl
  have x_1 := x.cell (v := .int .i64 m) 1 rfl
  have x_2 := x.cell (v := .int .i64 sc) 2 rfl
  have x_3 := x.cell (v := .int .i64 f) 3 rfl
  go_wp2
  go_ret
  exact ⟨rfl, (kalloc hB4 _)⟩
set_option maxRecDepth 100000 in
set_option maxHeartbeats 4000000 in
theorem back_e140_1 (b : Int) (s d : Bool) (n n2 h m sc f : Int) (w : World) (ho : okR b s d = true) (he : (frameR b s d h m sc f).2 = 140) (h0 : ¬ n < 0) (hr : 1073741824 ≤ n) :
    Calls Try.prog 5 #[.agg #[.int .i64 b, .bool s, .bool d], .int .i64 n, .int .i64 n2, .agg #[.int .i64 h, .int .i64 m, .int .i64 sc, .int .i64 f]] w fun e w' => e = .returned (.bool true) ∧ Below w.heap.size w w' := by
  have hB0 := Below.refl w.heap.size w
  have K9 := hide sane_any
  have K15 := hide (fun w => refCheck_any b s d w)
  rw [chkR_ok ho] at K15
  have K12 := hide (fun w => Frame_any b s d h m sc f w)
  generalize (frameR b s d h m sc f).1 = k at K12
  rw [he] at K12
  clear he
  clear ho
  go_enter Try.func5, Try.ntmps5
  go_wp2_with fail
  refine (K9.out _).mono ?_
  rintro e w1 ⟨rfl, hb⟩
  have hB1 := kcall (kalloc (kalloc hB0 _) _) hb
  have r := ((Blk.new _ #[.int .i64 b, .bool s, .bool d] 23).alloc _).bel hb
  have x := (Blk.new1 _ _ #[.int .i64 h, .int .i64 m, .int .i64 sc, .int .i64 f] 25).bel hb
  clear hb hB0
  have r_l := r.lt
  have r_0 := r.cell (v := .int .i64 b) 0 rfl
  have r_1 := r.cell (v := .bool s) 1 rfl
  have r_2 := r.cell (v := .bool d) 2 rfl
  have x_l := x.lt
  have x_0 := x.cell (v := .int .i64 h) 0 rfl
  have x_1 := x.cell (v := .int .i64 m) 1 rfl
  have x_2 := x.cell (v := .int .i64 sc) 2 rfl
  have x_3 := x.cell (v := .int .i64 f) 3 rfl
  go_wp2_with fail
  refine (K15.out _).mono ?_
  rintro e w2 ⟨rfl, hb⟩
  have hB2 := kcall hB1 hb
  replace r := r.bel hb
  replace x := x.bel hb
  clear hb hB1
  have r_l := r.lt
  have r_0 := r.cell (v := .int .i64 b) 0 rfl
  have r_1 := r.cell (v := .bool s) 1 rfl
  have r_2 := r.cell (v := .bool d) 2 rfl
  have x_l := x.lt
  have x_0 := x.cell (v := .int .i64 h) 0 rfl
  have x_1 := x.cell (v := .int .i64 m) 1 rfl
  have x_2 := x.cell (v := .int .i64 sc) 2 rfl
  have x_3 := x.cell (v := .int .i64 f) 3 rfl
  go_wp2_with fail
  refine (K12.out _).mono ?_
  rintro e w3 ⟨rfl, hb⟩
  have hB3 := kcall hB2 hb
  replace r := r.bel hb
  replace x := x.bel hb
  clear hb hB2
  have r_l := r.lt
  have r_0 := r.cell (v := .int .i64 b) 0 rfl
  have r_1 := r.cell (v := .bool s) 1 rfl
  have r_2 := r.cell (v := .bool d) 2 rfl
  have x_l := x.lt
  have x_0 := x.cell (v := .int .i64 h) 0 rfl
  have x_1 := x.cell (v := .int .i64 m) 1 rfl
  have x_2 := x.cell (v := .int .i64 sc) 2 rfl
  have x_3 := x.cell (v := .int .i64 f) 3 rfl
  go_wp2
  go_ret
  exact ⟨rfl, hB3⟩
set_option maxRecDepth 100000 in
set_option maxHeartbeats 4000000 in
theorem back_e2_1 (b : Int) (s d : Bool) (n n2 h m sc f : Int) (w : World) (ho : okR b s d = true) (he : (frameR b s d h m sc f).2 = 2) (h0 : ¬ n < 0) (hr : 1073741824 ≤ n) :
    Calls Try.prog 5 #[.agg #[.int .i64 b, .bool s, .bool d], .int .i64 n, .int .i64 n2, .agg #[.int .i64 h, .int .i64 m, .int .i64 sc, .int .i64 f]] w fun e w' => e = .returned (.bool true) ∧ Below w.heap.size w w' := by
  have hB0 := Below.refl w.heap.size w
  have K9 := hide sane_any
  have K15 := hide (fun w => refCheck_any b s d w)
  rw [chkR_ok ho] at K15
  have K12 := hide (fun w => Frame_any b s d h m sc f w)
  generalize (frameR b s d h m sc f).1 = k at K12
  rw [he] at K12
  clear he
  clear ho
  go_enter Try.func5, Try.ntmps5
  go_wp2_with fail
  refine (K9.out _).mono ?_
  rintro e w1 ⟨rfl, hb⟩
  have hB1 := kcall (kalloc (kalloc hB0 _) _) hb
  have r := ((Blk.new _ #[.int .i64 b, .bool s, .bool d] 23).alloc _).bel hb
  have x := (Blk.new1 _ _ #[.int .i64 h, .int .i64 m, .int .i64 sc, .int .i64 f] 25).bel hb
  clear hb hB0
  have r_l := r.lt
  have r_0 := r.cell (v := .int .i64 b) 0 rfl
  have r_1 := r.cell (v := .bool s) 1 rfl
  have r_2 := r.cell (v := .bool d) 2 rfl
  have x_l := x.lt
  have x_0 := x.cell (v := .int .i64 h) 0 rfl
  have x_1 := x.cell (v := .int .i64 m) 1 rfl
  have x_2 := x.cell (v := .int .i64 sc) 2 rfl
  have x_3 := x.cell (v := .int .i64 f) 3 rfl
  go_wp2_with fail
  refine (K15.out _).mono ?_
  rintro e w2 ⟨rfl, hb⟩
  have hB2 := kcall hB1 hb
  replace r := r.bel hb
  replace x := x.bel hb
  clear hb hB1
  have r_l := r.lt
  have r_0 := r.cell (v := .int .i64 b) 0 rfl
  have r_1 := r.cell (v := .bool s) 1 rfl
  have r_2 := r.cell (v := .bool d) 2 rfl
  have x_l := x.lt
  have x_0 := x.cell (v := .int .i64 h) 0 rfl
  have x_1 := x.cell (v := .int .i64 m) 1 rfl
  have x_2 := x.cell (v := .int .i64 sc) 2 rfl
  have x_3 := x.cell (v := .int .i64 f) 3 rfl
  go_wp2_with fail
  refine (K12.out _).mono ?_
  rintro e w3 ⟨rfl, hb⟩
  have hB3 := kcall hB2 hb
  replace r := r.bel hb
  replace x := x.bel hb
  clear hb hB2
  have r_l := r.lt
  have r_0 := r.cell (v := .int .i64 b) 0 rfl
  have r_1 := r.cell (v := .bool s) 1 rfl
  have r_2 := r.cell (v := .bool d) 2 rfl
  have x_l := x.lt
  have x_0 := x.cell (v := .int .i64 h) 0 rfl
  have x_1 := x.cell (v := .int .i64 m) 1 rfl
  have x_2 := x.cell (v := .int .i64 sc) 2 rfl
  have x_3 := x.cell (v := .int .i64 f) 3 rfl
  go_wp2
  go_ret
  exact ⟨rfl, hB3⟩
set_option maxRecDepth 100000 in
set_option maxHeartbeats 4000000 in
theorem back_e0_2 (b : Int) (s d : Bool) (n n2 h m sc f : Int) (w : World) (ho : okR b s d = true) (he : (frameR b s d h m sc f).2 = 0) (h0 : ¬ n < 0) (h1 : n < 1073741824) (hr : n2 < 0) :
    Calls Try.prog 5 #[.agg #[.int .i64 b, .bool s, .bool d], .int .i64 n, .int .i64 n2, .agg #[.int .i64 h, .int .i64 m, .int .i64 sc, .int .i64 f]] w fun e w' => e = .returned (.bool true) ∧ Below w.heap.size w w' := by
  have hB0 := Below.refl w.heap.size w
  have K9 := hide sane_any
  have K15 := hide (fun w => refCheck_any b s d w)
  rw [chkR_ok ho] at K15
  have K12 := hide (fun w => Frame_any b s d h m sc f w)
  have KL := hide (fun w => Label_any b s d (frameR b s d h m sc f).1 w)
  rw [frame_label ho he] at KL
  rw [he] at K12
  generalize (frameR b s d h m sc f).1 = k at K12 KL
  unfold Lb.v at KL
  dsimp only at KL
  clear he
  clear ho
  go_enter Try.func5, Try.ntmps5
  go_wp2_with fail
  refine (K9.out _).mono ?_
  rintro e w1 ⟨rfl, hb⟩
  have hB1 := kcall (kalloc (kalloc hB0 _) _) hb
  have r := ((Blk.new _ #[.int .i64 b, .bool s, .bool d] 23).alloc _).bel hb
  have x := (Blk.new1 _ _ #[.int .i64 h, .int .i64 m, .int .i64 sc, .int .i64 f] 25).bel hb
  clear hb hB0
  have r_l := r.lt
  have r_0 := r.cell (v := .int .i64 b) 0 rfl
  have r_1 := r.cell (v := .bool s) 1 rfl
  have r_2 := r.cell (v := .bool d) 2 rfl
  have x_l := x.lt
  have x_0 := x.cell (v := .int .i64 h) 0 rfl
  have x_1 := x.cell (v := .int .i64 m) 1 rfl
  have x_2 := x.cell (v := .int .i64 sc) 2 rfl
  have x_3 := x.cell (v := .int .i64 f) 3 rfl
  go_wp2_with fail
  refine (K15.out _).mono ?_
  rintro e w2 ⟨rfl, hb⟩
  have hB2 := kcall hB1 hb
  replace r := r.bel hb
  replace x := x.bel hb
  clear hb hB1
  have r_l := r.lt
  have r_0 := r.cell (v := .int .i64 b) 0 rfl
  have r_1 := r.cell (v := .bool s) 1 rfl
  have r_2 := r.cell (v := .bool d) 2 rfl
  have x_l := x.lt
  have x_0 := x.cell (v := .int .i64 h) 0 rfl
  have x_1 := x.cell (v := .int .i64 m) 1 rfl
  have x_2 := x.cell (v := .int .i64 sc) 2 rfl
  have x_3 := x.cell (v := .int .i64 f) 3 rfl
  go_wp2_with fail
  refine (K12.out _).mono ?_
  rintro e w3 ⟨rfl, hb⟩
  have hB3 := kcall hB2 hb
  replace r := r.bel hb
  replace x := x.bel hb
  clear hb hB2
  have r_l := r.lt
  have r_0 := r.cell (v := .int .i64 b) 0 rfl
  have r_1 := r.cell (v := .bool s) 1 rfl
  have r_2 := r.cell (v := .bool d) 2 rfl
  have x_l := x.lt
  have x_0 := x.cell (v := .int .i64 h) 0 rfl
  have x_1 := x.cell (v := .int .i64 m) 1 rfl
  have x_2 := x.cell (v := .int .i64 sc) 2 rfl
  have x_3 := x.cell (v := .int .i64 f) 3 rfl
  go_wp2_with fail
  refine (KL.out _).mono ?_
  rintro e w4 ⟨rfl, hb⟩
  have hB4 := kcall hB3 hb
  replace r := r.bel hb
  replace x := x.bel hb
  clear hb hB3
  have r_l := r.lt
  have r_0 := r.cell (v := .int .i64 b) 0 rfl
  have r_1 := r.cell (v := .bool s) 1 rfl
  have r_2 := r.cell (v := .bool d) 2 rfl
  have x_l := x.lt
  have x_0 := x.cell (v := .int .i64 h) 0 rfl
  have x_1 := x.cell (v := .int .i64 m) 1 rfl
  have x_2 := x.cell (v := .int .i64 sc) 2 rfl
  have x_3 := x.cell (v := .int .i64 f) 3 rfl
  go_wp2
  go_ret
  exact ⟨rfl, (kalloc hB4 _)⟩
set_option maxRecDepth 100000 in
set_option maxHeartbeats 4000000 in
theorem back_e140_2 (b : Int) (s d : Bool) (n n2 h m sc f : Int) (w : World) (ho : okR b s d = true) (he : (frameR b s d h m sc f).2 = 140) (h0 : ¬ n < 0) (h1 : n < 1073741824) (hr : n2 < 0) :
    Calls Try.prog 5 #[.agg #[.int .i64 b, .bool s, .bool d], .int .i64 n, .int .i64 n2, .agg #[.int .i64 h, .int .i64 m, .int .i64 sc, .int .i64 f]] w fun e w' => e = .returned (.bool true) ∧ Below w.heap.size w w' := by
  have hB0 := Below.refl w.heap.size w
  have K9 := hide sane_any
  have K15 := hide (fun w => refCheck_any b s d w)
  rw [chkR_ok ho] at K15
  have K12 := hide (fun w => Frame_any b s d h m sc f w)
  generalize (frameR b s d h m sc f).1 = k at K12
  rw [he] at K12
  clear he
  clear ho
  go_enter Try.func5, Try.ntmps5
  go_wp2_with fail
  refine (K9.out _).mono ?_
  rintro e w1 ⟨rfl, hb⟩
  have hB1 := kcall (kalloc (kalloc hB0 _) _) hb
  have r := ((Blk.new _ #[.int .i64 b, .bool s, .bool d] 23).alloc _).bel hb
  have x := (Blk.new1 _ _ #[.int .i64 h, .int .i64 m, .int .i64 sc, .int .i64 f] 25).bel hb
  clear hb hB0
  have r_l := r.lt
  have r_0 := r.cell (v := .int .i64 b) 0 rfl
  have r_1 := r.cell (v := .bool s) 1 rfl
  have r_2 := r.cell (v := .bool d) 2 rfl
  have x_l := x.lt
  have x_0 := x.cell (v := .int .i64 h) 0 rfl
  have x_1 := x.cell (v := .int .i64 m) 1 rfl
  have x_2 := x.cell (v := .int .i64 sc) 2 rfl
  have x_3 := x.cell (v := .int .i64 f) 3 rfl
  go_wp2_with fail
  refine (K15.out _).mono ?_
  rintro e w2 ⟨rfl, hb⟩
  have hB2 := kcall hB1 hb
  replace r := r.bel hb
  replace x := x.bel hb
  clear hb hB1
  have r_l := r.lt
  have r_0 := r.cell (v := .int .i64 b) 0 rfl
  have r_1 := r.cell (v := .bool s) 1 rfl
  have r_2 := r.cell (v := .bool d) 2 rfl
  have x_l := x.lt
  have x_0 := x.cell (v := .int .i64 h) 0 rfl
  have x_1 := x.cell (v := .int .i64 m) 1 rfl
  have x_2 := x.cell (v := .int .i64 sc) 2 rfl
  have x_3 := x.cell (v := .int .i64 f) 3 rfl
  go_wp2_with fail
  refine (K12.out _).mono ?_
  rintro e w3 ⟨rfl, hb⟩
  have hB3 := kcall hB2 hb
  replace r := r.bel hb
  replace x := x.bel hb
  clear hb hB2
  have r_l := r.lt
  have r_0 := r.cell (v := .int .i64 b) 0 rfl
  have r_1 := r.cell (v := .bool s) 1 rfl
  have r_2 := r.cell (v := .bool d) 2 rfl
  have x_l := x.lt
  have x_0 := x.cell (v := .int .i64 h) 0 rfl
  have x_1 := x.cell (v := .int .i64 m) 1 rfl
  have x_2 := x.cell (v := .int .i64 sc) 2 rfl
  have x_3 := x.cell (v := .int .i64 f) 3 rfl
  go_wp2
  go_ret
  exact ⟨rfl, hB3⟩
set_option maxRecDepth 100000 in
set_option maxHeartbeats 4000000 in
theorem back_e2_2 (b : Int) (s d : Bool) (n n2 h m sc f : Int) (w : World) (ho : okR b s d = true) (he : (frameR b s d h m sc f).2 = 2) (h0 : ¬ n < 0) (h1 : n < 1073741824) (hr : n2 < 0) :
    Calls Try.prog 5 #[.agg #[.int .i64 b, .bool s, .bool d], .int .i64 n, .int .i64 n2, .agg #[.int .i64 h, .int .i64 m, .int .i64 sc, .int .i64 f]] w fun e w' => e = .returned (.bool true) ∧ Below w.heap.size w w' := by
  have hB0 := Below.refl w.heap.size w
  have K9 := hide sane_any
  have K15 := hide (fun w => refCheck_any b s d w)
  rw [chkR_ok ho] at K15
  have K12 := hide (fun w => Frame_any b s d h m sc f w)
  generalize (frameR b s d h m sc f).1 = k at K12
  rw [he] at K12
  clear he
  clear ho
  go_enter Try.func5, Try.ntmps5
  go_wp2_with fail
  refine (K9.out _).mono ?_
  rintro e w1 ⟨rfl, hb⟩
  have hB1 := kcall (kalloc (kalloc hB0 _) _) hb
  have r := ((Blk.new _ #[.int .i64 b, .bool s, .bool d] 23).alloc _).bel hb
  have x := (Blk.new1 _ _ #[.int .i64 h, .int .i64 m, .int .i64 sc, .int .i64 f] 25).bel hb
  clear hb hB0
  have r_l := r.lt
  have r_0 := r.cell (v := .int .i64 b) 0 rfl
  have r_1 := r.cell (v := .bool s) 1 rfl
  have r_2 := r.cell (v := .bool d) 2 rfl
  have x_l := x.lt
  have x_0 := x.cell (v := .int .i64 h) 0 rfl
  have x_1 := x.cell (v := .int .i64 m) 1 rfl
  have x_2 := x.cell (v := .int .i64 sc) 2 rfl
  have x_3 := x.cell (v := .int .i64 f) 3 rfl
  go_wp2_with fail
  refine (K15.out _).mono ?_
  rintro e w2 ⟨rfl, hb⟩
  have hB2 := kcall hB1 hb
  replace r := r.bel hb
  replace x := x.bel hb
  clear hb hB1
  have r_l := r.lt
  have r_0 := r.cell (v := .int .i64 b) 0 rfl
  have r_1 := r.cell (v := .bool s) 1 rfl
  have r_2 := r.cell (v := .bool d) 2 rfl
  have x_l := x.lt
  have x_0 := x.cell (v := .int .i64 h) 0 rfl
  have x_1 := x.cell (v := .int .i64 m) 1 rfl
  have x_2 := x.cell (v := .int .i64 sc) 2 rfl
  have x_3 := x.cell (v := .int .i64 f) 3 rfl
  go_wp2_with fail
  refine (K12.out _).mono ?_
  rintro e w3 ⟨rfl, hb⟩
  have hB3 := kcall hB2 hb
  replace r := r.bel hb
  replace x := x.bel hb
  clear hb hB2
  have r_l := r.lt
  have r_0 := r.cell (v := .int .i64 b) 0 rfl
  have r_1 := r.cell (v := .bool s) 1 rfl
  have r_2 := r.cell (v := .bool d) 2 rfl
  have x_l := x.lt
  have x_0 := x.cell (v := .int .i64 h) 0 rfl
  have x_1 := x.cell (v := .int .i64 m) 1 rfl
  have x_2 := x.cell (v := .int .i64 sc) 2 rfl
  have x_3 := x.cell (v := .int .i64 f) 3 rfl
  go_wp2
  go_ret
  exact ⟨rfl, hB3⟩
set_option maxRecDepth 100000 in
set_option maxHeartbeats 4000000 in
theorem back_e0_3 (b : Int) (s d : Bool) (n n2 h m sc f : Int) (w : World) (ho : okR b s d = true) (he : (frameR b s d h m sc f).2 = 0) (h0 : ¬ n < 0) (h1 : n < 1073741824) (h2 : ¬ n2 < 0) (hr : 1073741824 ≤ n2) :
    Calls Try.prog 5 #[.agg #[.int .i64 b, .bool s, .bool d], .int .i64 n, .int .i64 n2, .agg #[.int .i64 h, .int .i64 m, .int .i64 sc, .int .i64 f]] w fun e w' => e = .returned (.bool true) ∧ Below w.heap.size w w' := by
  have hB0 := Below.refl w.heap.size w
  have K9 := hide sane_any
  have K15 := hide (fun w => refCheck_any b s d w)
  rw [chkR_ok ho] at K15
  have K12 := hide (fun w => Frame_any b s d h m sc f w)
  have KL := hide (fun w => Label_any b s d (frameR b s d h m sc f).1 w)
  rw [frame_label ho he] at KL
  rw [he] at K12
  generalize (frameR b s d h m sc f).1 = k at K12 KL
  unfold Lb.v at KL
  dsimp only at KL
  clear he
  clear ho
  go_enter Try.func5, Try.ntmps5
  go_wp2_with fail
  refine (K9.out _).mono ?_
  rintro e w1 ⟨rfl, hb⟩
  have hB1 := kcall (kalloc (kalloc hB0 _) _) hb
  have r := ((Blk.new _ #[.int .i64 b, .bool s, .bool d] 23).alloc _).bel hb
  have x := (Blk.new1 _ _ #[.int .i64 h, .int .i64 m, .int .i64 sc, .int .i64 f] 25).bel hb
  clear hb hB0
  have r_l := r.lt
  have r_0 := r.cell (v := .int .i64 b) 0 rfl
  have r_1 := r.cell (v := .bool s) 1 rfl
  have r_2 := r.cell (v := .bool d) 2 rfl
  have x_l := x.lt
  have x_0 := x.cell (v := .int .i64 h) 0 rfl
  have x_1 := x.cell (v := .int .i64 m) 1 rfl
  have x_2 := x.cell (v := .int .i64 sc) 2 rfl
  have x_3 := x.cell (v := .int .i64 f) 3 rfl
  go_wp2_with fail
  refine (K15.out _).mono ?_
  rintro e w2 ⟨rfl, hb⟩
  have hB2 := kcall hB1 hb
  replace r := r.bel hb
  replace x := x.bel hb
  clear hb hB1
  have r_l := r.lt
  have r_0 := r.cell (v := .int .i64 b) 0 rfl
  have r_1 := r.cell (v := .bool s) 1 rfl
  have r_2 := r.cell (v := .bool d) 2 rfl
  have x_l := x.lt
  have x_0 := x.cell (v := .int .i64 h) 0 rfl
  have x_1 := x.cell (v := .int .i64 m) 1 rfl
  have x_2 := x.cell (v := .int .i64 sc) 2 rfl
  have x_3 := x.cell (v := .int .i64 f) 3 rfl
  go_wp2_with fail
  refine (K12.out _).mono ?_
  rintro e w3 ⟨rfl, hb⟩
  have hB3 := kcall hB2 hb
  replace r := r.bel hb
  replace x := x.bel hb
  clear hb hB2
  have r_l := r.lt
  have r_0 := r.cell (v := .int .i64 b) 0 rfl
  have r_1 := r.cell (v := .bool s) 1 rfl
  have r_2 := r.cell (v := .bool d) 2 rfl
  have x_l := x.lt
  have x_0 := x.cell (v := .int .i64 h) 0 rfl
  have x_1 := x.cell (v := .int .i64 m) 1 rfl
  have x_2 := x.cell (v := .int .i64 sc) 2 rfl
  have x_3 := x.cell (v := .int .i64 f) 3 rfl
  go_wp2_with fail
  refine (KL.out _).mono ?_
  rintro e w4 ⟨rfl, hb⟩
  have hB4 := kcall hB3 hb
  replace r := r.bel hb
  replace x := x.bel hb
  clear hb hB3
  have r_l := r.lt
  have r_0 := r.cell (v := .int .i64 b) 0 rfl
  have r_1 := r.cell (v := .bool s) 1 rfl
  have r_2 := r.cell (v := .bool d) 2 rfl
  have x_l := x.lt
  have x_0 := x.cell (v := .int .i64 h) 0 rfl
  have x_1 := x.cell (v := .int .i64 m) 1 rfl
  have x_2 := x.cell (v := .int .i64 sc) 2 rfl
  have x_3 := x.cell (v := .int .i64 f) 3 rfl
  go_wp2
  go_ret
  exact ⟨rfl, (kalloc hB4 _)⟩
set_option maxRecDepth 100000 in
set_option maxHeartbeats 4000000 in
theorem back_e140_3 (b : Int) (s d : Bool) (n n2 h m sc f : Int) (w : World) (ho : okR b s d = true) (he : (frameR b s d h m sc f).2 = 140) (h0 : ¬ n < 0) (h1 : n < 1073741824) (h2 : ¬ n2 < 0) (hr : 1073741824 ≤ n2) :
    Calls Try.prog 5 #[.agg #[.int .i64 b, .bool s, .bool d], .int .i64 n, .int .i64 n2, .agg #[.int .i64 h, .int .i64 m, .int .i64 sc, .int .i64 f]] w fun e w' => e = .returned (.bool true) ∧ Below w.heap.size w w' := by
  have hB0 := Below.refl w.heap.size w
  have K9 := hide sane_any
  have K15 := hide (fun w => refCheck_any b s d w)
  rw [chkR_ok ho] at K15
  have K12 := hide (fun w => Frame_any b s d h m sc f w)
  generalize (frameR b s d h m sc f).1 = k at K12
  rw [he] at K12
  clear he
  clear ho
  go_enter Try.func5, Try.ntmps5
  go_wp2_with fail
  refine (K9.out _).mono ?_
  rintro e w1 ⟨rfl, hb⟩
  have hB1 := kcall (kalloc (kalloc hB0 _) _) hb
  have r := ((Blk.new _ #[.int .i64 b, .bool s, .bool d] 23).alloc _).bel hb
  have x := (Blk.new1 _ _ #[.int .i64 h, .int .i64 m, .int .i64 sc, .int .i64 f] 25).bel hb
  clear hb hB0
  have r_l := r.lt
  have r_0 := r.cell (v := .int .i64 b) 0 rfl
  have r_1 := r.cell (v := .bool s) 1 rfl
  have r_2 := r.cell (v := .bool d) 2 rfl
  have x_l := x.lt
  have x_0 := x.cell (v := .int .i64 h) 0 rfl
  have x_1 := x.cell (v := .int .i64 m) 1 rfl
  have x_2 := x.cell (v := .int .i64 sc) 2 rfl
  have x_3 := x.cell (v := .int .i64 f) 3 rfl
  go_wp2_with fail
  refine (K15.out _).mono ?_
  rintro e w2 ⟨rfl, hb⟩
  have hB2 := kcall hB1 hb
  replace r := r.bel hb
  replace x := x.bel hb
  clear hb hB1
  have r_l := r.lt
  have r_0 := r.cell (v := .int .i64 b) 0 rfl
  have r_1 := r.cell (v := .bool s) 1 rfl
  have r_2 := r.cell (v := .bool d) 2 rfl
  have x_l := x.lt
  have x_0 := x.cell (v := .int .i64 h) 0 rfl
  have x_1 := x.cell (v := .int .i64 m) 1 rfl
  have x_2 := x.cell (v := .int .i64 sc) 2 rfl
  have x_3 := x.cell (v := .int .i64 f) 3 rfl
  go_wp2_with fail
  refine (K12.out _).mono ?_
  rintro e w3 ⟨rfl, hb⟩
  have hB3 := kcall hB2 hb
  replace r := r.bel hb
  replace x := x.bel hb
  clear hb hB2
  have r_l := r.lt
  have r_0 := r.cell (v := .int .i64 b) 0 rfl
  have r_1 := r.cell (v := .bool s) 1 rfl
  have r_2 := r.cell (v := .bool d) 2 rfl
  have x_l := x.lt
  have x_0 := x.cell (v := .int .i64 h) 0 rfl
  have x_1 := x.cell (v := .int .i64 m) 1 rfl
  have x_2 := x.cell (v := .int .i64 sc) 2 rfl
  have x_3 := x.cell (v := .int .i64 f) 3 rfl
  go_wp2
  go_ret
  exact ⟨rfl, hB3⟩
set_option maxRecDepth 100000 in
set_option maxHeartbeats 4000000 in
theorem back_e2_3 (b : Int) (s d : Bool) (n n2 h m sc f : Int) (w : World) (ho : okR b s d = true) (he : (frameR b s d h m sc f).2 = 2) (h0 : ¬ n < 0) (h1 : n < 1073741824) (h2 : ¬ n2 < 0) (hr : 1073741824 ≤ n2) :
    Calls Try.prog 5 #[.agg #[.int .i64 b, .bool s, .bool d], .int .i64 n, .int .i64 n2, .agg #[.int .i64 h, .int .i64 m, .int .i64 sc, .int .i64 f]] w fun e w' => e = .returned (.bool true) ∧ Below w.heap.size w w' := by
  have hB0 := Below.refl w.heap.size w
  have K9 := hide sane_any
  have K15 := hide (fun w => refCheck_any b s d w)
  rw [chkR_ok ho] at K15
  have K12 := hide (fun w => Frame_any b s d h m sc f w)
  generalize (frameR b s d h m sc f).1 = k at K12
  rw [he] at K12
  clear he
  clear ho
  go_enter Try.func5, Try.ntmps5
  go_wp2_with fail
  refine (K9.out _).mono ?_
  rintro e w1 ⟨rfl, hb⟩
  have hB1 := kcall (kalloc (kalloc hB0 _) _) hb
  have r := ((Blk.new _ #[.int .i64 b, .bool s, .bool d] 23).alloc _).bel hb
  have x := (Blk.new1 _ _ #[.int .i64 h, .int .i64 m, .int .i64 sc, .int .i64 f] 25).bel hb
  clear hb hB0
  have r_l := r.lt
  have r_0 := r.cell (v := .int .i64 b) 0 rfl
  have r_1 := r.cell (v := .bool s) 1 rfl
  have r_2 := r.cell (v := .bool d) 2 rfl
  have x_l := x.lt
  have x_0 := x.cell (v := .int .i64 h) 0 rfl
  have x_1 := x.cell (v := .int .i64 m) 1 rfl
  have x_2 := x.cell (v := .int .i64 sc) 2 rfl
  have x_3 := x.cell (v := .int .i64 f) 3 rfl
  go_wp2_with fail
  refine (K15.out _).mono ?_
  rintro e w2 ⟨rfl, hb⟩
  have hB2 := kcall hB1 hb
  replace r := r.bel hb
  replace x := x.bel hb
  clear hb hB1
  have r_l := r.lt
  have r_0 := r.cell (v := .int .i64 b) 0 rfl
  have r_1 := r.cell (v := .bool s) 1 rfl
  have r_2 := r.cell (v := .bool d) 2 rfl
  have x_l := x.lt
  have x_0 := x.cell (v := .int .i64 h) 0 rfl
  have x_1 := x.cell (v := .int .i64 m) 1 rfl
  have x_2 := x.cell (v := .int .i64 sc) 2 rfl
  have x_3 := x.cell (v := .int .i64 f) 3 rfl
  go_wp2_with fail
  refine (K12.out _).mono ?_
  rintro e w3 ⟨rfl, hb⟩
  have hB3 := kcall hB2 hb
  replace r := r.bel hb
  replace x := x.bel hb
  clear hb hB2
  have r_l := r.lt
  have r_0 := r.cell (v := .int .i64 b) 0 rfl
  have r_1 := r.cell (v := .bool s) 1 rfl
  have r_2 := r.cell (v := .bool d) 2 rfl
  have x_l := x.lt
  have x_0 := x.cell (v := .int .i64 h) 0 rfl
  have x_1 := x.cell (v := .int .i64 m) 1 rfl
  have x_2 := x.cell (v := .int .i64 sc) 2 rfl
  have x_3 := x.cell (v := .int .i64 f) 3 rfl
  go_wp2
  go_ret
  exact ⟨rfl, hB3⟩
set_option maxRecDepth 100000 in
set_option maxHeartbeats 4000000 in
theorem back_e0_4 (b : Int) (s d : Bool) (n n2 h m sc f : Int) (w : World) (ho : okR b s d = true) (he : (frameR b s d h m sc f).2 = 0) (hn : 0 ≤ n ∧ n < 1073741824) (hn2 : 0 ≤ n2 ∧ n2 < 1073741824) :
    Calls Try.prog 5 #[.agg #[.int .i64 b, .bool s, .bool d], .int .i64 n, .int .i64 n2, .agg #[.int .i64 h, .int .i64 m, .int .i64 sc, .int .i64 f]] w fun e w' => e = .returned (.bool true) ∧ Below w.heap.size w w' := by
  have hB0 := Below.refl w.heap.size w
  have K9 := hide sane_any
  have K15 := hide (fun w => refCheck_any b s d w)
  rw [chkR_ok ho] at K15
  have K12 := hide (fun w => Frame_any b s d h m sc f w)
  have KL := hide (fun w => Label_any b s d (frameR b s d h m sc f).1 w)
  rw [frame_label ho he] at KL
  rw [he] at K12
  generalize (frameR b s d h m sc f).1 = k at K12 KL
  unfold Lb.v at KL
  dsimp only at KL
  clear he
  have KA := hide (fun w => Label_any b s d n w)
  have KB := hide (fun w => Label_any b s d n2 w)
  rw [labelR_ok ho hn] at KA
  rw [labelR_ok ho hn2] at KB
  have KF := hide (fun w => Frame_any b s d (labelI b (dropR b d) n).h (labelI b (dropR b d) n).m (labelI b (dropR b d) n).s (labelI b (dropR b d) n).f w)
  rw [label_frame ho hn] at KF
  have KO := hide (fun w => before_any (labelI b (dropR b d) n).h (labelI b (dropR b d) n).m (labelI b (dropR b d) n).s (labelI b (dropR b d) n).f (labelI b (dropR b d) n2).h (labelI b (dropR b d) n2).m (labelI b (dropR b d) n2).s (labelI b (dropR b d) n2).f w)
  rw [label_before ho hn.1 hn2.1] at KO
  unfold Lb.v at KA KB
  dsimp only at KA KB KF
  generalize labelI b (dropR b d) n = xa at KA KF KO
  generalize labelI b (dropR b d) n2 = xb at KB KO
  obtain ⟨ah, am, az, af⟩ := xa
  obtain ⟨bh, bm, bz, bf⟩ := xb
  obtain ⟨n1, n3⟩ := hn
  obtain ⟨n4, n5⟩ := hn2
  dsimp only at KA KB KF KO
  clear ho
  go_enter Try.func5, Try.ntmps5
  go_wp2_with fail
  refine (K9.out _).mono ?_
  rintro e w1 ⟨rfl, hb⟩
  have hB1 := kcall (kalloc (kalloc hB0 _) _) hb
  have r := ((Blk.new _ #[.int .i64 b, .bool s, .bool d] 23).alloc _).bel hb
  have x := (Blk.new1 _ _ #[.int .i64 h, .int .i64 m, .int .i64 sc, .int .i64 f] 25).bel hb
  clear hb hB0
  have r_l := r.lt
  have r_0 := r.cell (v := .int .i64 b) 0 rfl
  have r_1 := r.cell (v := .bool s) 1 rfl
  have r_2 := r.cell (v := .bool d) 2 rfl
  have x_l := x.lt
  have x_0 := x.cell (v := .int .i64 h) 0 rfl
  have x_1 := x.cell (v := .int .i64 m) 1 rfl
  have x_2 := x.cell (v := .int .i64 sc) 2 rfl
  have x_3 := x.cell (v := .int .i64 f) 3 rfl
  go_wp2_with fail
  refine (K15.out _).mono ?_
  rintro e w2 ⟨rfl, hb⟩
  have hB2 := kcall hB1 hb
  replace r := r.bel hb
  replace x := x.bel hb
  clear hb hB1
  have r_l := r.lt
  have r_0 := r.cell (v := .int .i64 b) 0 rfl
  have r_1 := r.cell (v := .bool s) 1 rfl
  have r_2 := r.cell (v := .bool d) 2 rfl
  have x_l := x.lt
  have x_0 := x.cell (v := .int .i64 h) 0 rfl
  have x_1 := x.cell (v := .int .i64 m) 1 rfl
  have x_2 := x.cell (v := .int .i64 sc) 2 rfl
  have x_3 := x.cell (v := .int .i64 f) 3 rfl
  go_wp2_with fail
  refine (K12.out _).mono ?_
  rintro e w3 ⟨rfl, hb⟩
  have hB3 := kcall hB2 hb
  replace r := r.bel hb
  replace x := x.bel hb
  clear hb hB2
  have r_l := r.lt
  have r_0 := r.cell (v := .int .i64 b) 0 rfl
  have r_1 := r.cell (v := .bool s) 1 rfl
  have r_2 := r.cell (v := .bool d) 2 rfl
  have x_l := x.lt
  have x_0 := x.cell (v := .int .i64 h) 0 rfl
  have x_1 := x.cell (v := .int .i64 m) 1 rfl
  have x_2 := x.cell (v := .int .i64 sc) 2 rfl
  have x_3 := x.cell (v := .int .i64 f) 3 rfl
  go_wp2_with fail
  refine (KL.out _).mono ?_
  rintro e w4 ⟨rfl, hb⟩
  have hB4 := kcall hB3 hb
  replace r := r.bel hb
  replace x := x.bel hb
  clear hb hB3
  have r_l := r.lt
  have r_0 := r.cell (v := .int .i64 b) 0 rfl
  have r_1 := r.cell (v := .bool s) 1 rfl
  have r_2 := r.cell (v := .bool d) 2 rfl
  have x_l := x.lt
  have x_0 := x.cell (v := .int .i64 h) 0 rfl
  have x_1 := x.cell (v := .int .i64 m) 1 rfl
  have x_2 := x.cell (v := .int .i64 sc) 2 rfl
  have x_3 := x.cell (v := .int .i64 f) 3 rfl
  go_wp2_with fail
  refine (KA.out _).mono ?_
  rintro e w5 ⟨rfl, hb⟩
  have hB5 := kcall (kalloc hB4 _) hb
  replace r := (r.alloc _).bel hb
  replace x := (x.alloc _).bel hb
  have y := (Blk.new _ #[.int .i64 h, .int .i64 m, .int .i64 sc, .int .i64 f] 25).bel hb
  clear hb hB4
  have r_l := r.lt
  have r_0 := r.cell (v := .int .i64 b) 0 rfl
  have r_1 := r.cell (v := .bool s) 1 rfl
  have r_2 := r.cell (v := .bool d) 2 rfl
  have x_l := x.lt
  have x_0 := x.cell (v := .int .i64 h) 0 rfl
  have x_1 := x.cell (v := .int .i64 m) 1 rfl
  have x_2 := x.cell (v := .int .i64 sc) 2 rfl
  have x_3 := x.cell (v := .int .i64 f) 3 rfl
  have y_l := y.lt
  have y_0 := y.cell (v := .int .i64 h) 0 rfl
  have y_1 := y.cell (v := .int .i64 m) 1 rfl
  have y_2 := y.cell (v := .int .i64 sc) 2 rfl
  have y_3 := y.cell (v := .int .i64 f) 3 rfl
  go_wp2_with fail
  refine (KB.out _).mono ?_
  rintro e w6 ⟨rfl, hb⟩
  have hB6 := kcall (kalloc hB5 _) hb
  replace r := (r.alloc _).bel hb
  replace x := (x.alloc _).bel hb
  replace y := (y.alloc _).bel hb
  have a := (Blk.new _ #[.int .i64 ah, .int .i64 am, .int .i64 az, .int .i64 af] 25).bel hb
  clear hb hB5
  have r_l := r.lt
  have r_0 := r.cell (v := .int .i64 b) 0 rfl
  have r_1 := r.cell (v := .bool s) 1 rfl
  have r_2 := r.cell (v := .bool d) 2 rfl
  have x_l := x.lt
  have x_0 := x.cell (v := .int .i64 h) 0 rfl
  have x_1 := x.cell (v := .int .i64 m) 1 rfl
  have x_2 := x.cell (v := .int .i64 sc) 2 rfl
  have x_3 := x.cell (v := .int .i64 f) 3 rfl
  have y_l := y.lt
  have y_0 := y.cell (v := .int .i64 h) 0 rfl
  have y_1 := y.cell (v := .int .i64 m) 1 rfl
  have y_2 := y.cell (v := .int .i64 sc) 2 rfl
  have y_3 := y.cell (v := .int .i64 f) 3 rfl
  have a_l := a.lt
  have a_0 := a.cell (v := .int .i64 ah) 0 rfl
  have a_1 := a.cell (v := .int .i64 am) 1 rfl
  have a_2 := a.cell (v := .int .i64 az) 2 rfl
  have a_3 := a.cell (v := .int .i64 af) 3 rfl
  go_wp2_with fail
  refine (KF.out _).mono ?_
  rintro e w7 ⟨rfl, hb⟩
  have hB7 := kcall (kalloc hB6 _) hb
  replace r := (r.alloc _).bel hb
  replace x := (x.alloc _).bel hb
  replace y := (y.alloc _).bel hb
  replace a := (a.alloc _).bel hb
  have c := (Blk.new _ #[.int .i64 bh, .int .i64 bm, .int .i64 bz, .int .i64 bf] 25).bel hb
  clear hb hB6
  have r_l := r.lt
  have r_0 := r.cell (v := .int .i64 b) 0 rfl
  have r_1 := r.cell (v := .bool s) 1 rfl
  have r_2 := r.cell (v := .bool d) 2 rfl
  have x_l := x.lt
  have x_0 := x.cell (v := .int .i64 h) 0 rfl
  have x_1 := x.cell (v := .int .i64 m) 1 rfl
  have x_2 := x.cell (v := .int .i64 sc) 2 rfl
  have x_3 := x.cell (v := .int .i64 f) 3 rfl
  have y_l := y.lt
  have y_0 := y.cell (v := .int .i64 h) 0 rfl
  have y_1 := y.cell (v := .int .i64 m) 1 rfl
  have y_2 := y.cell (v := .int .i64 sc) 2 rfl
  have y_3 := y.cell (v := .int .i64 f) 3 rfl
  have a_l := a.lt
  have a_0 := a.cell (v := .int .i64 ah) 0 rfl
  have a_1 := a.cell (v := .int .i64 am) 1 rfl
  have a_2 := a.cell (v := .int .i64 az) 2 rfl
  have a_3 := a.cell (v := .int .i64 af) 3 rfl
  have c_l := c.lt
  have c_0 := c.cell (v := .int .i64 bh) 0 rfl
  have c_1 := c.cell (v := .int .i64 bm) 1 rfl
  have c_2 := c.cell (v := .int .i64 bz) 2 rfl
  have c_3 := c.cell (v := .int .i64 bf) 3 rfl
  go_wp2_with fail
  refine (KO.out _).mono ?_
  rintro e w8 ⟨rfl, hb⟩
  have hB8 := kcall hB7 hb
  replace r := r.bel hb
  replace x := x.bel hb
  replace y := y.bel hb
  replace a := a.bel hb
  replace c := c.bel hb
  clear hb hB7
  have r_l := r.lt
  have r_0 := r.cell (v := .int .i64 b) 0 rfl
  have r_1 := r.cell (v := .bool s) 1 rfl
  have r_2 := r.cell (v := .bool d) 2 rfl
  have x_l := x.lt
  have x_0 := x.cell (v := .int .i64 h) 0 rfl
  have x_1 := x.cell (v := .int .i64 m) 1 rfl
  have x_2 := x.cell (v := .int .i64 sc) 2 rfl
  have x_3 := x.cell (v := .int .i64 f) 3 rfl
  have y_l := y.lt
  have y_0 := y.cell (v := .int .i64 h) 0 rfl
  have y_1 := y.cell (v := .int .i64 m) 1 rfl
  have y_2 := y.cell (v := .int .i64 sc) 2 rfl
  have y_3 := y.cell (v := .int .i64 f) 3 rfl
  have a_l := a.lt
  have a_0 := a.cell (v := .int .i64 ah) 0 rfl
  have a_1 := a.cell (v := .int .i64 am) 1 rfl
  have a_2 := a.cell (v := .int .i64 az) 2 rfl
  have a_3 := a.cell (v := .int .i64 af) 3 rfl
  have c_l := c.lt
  have c_0 := c.cell (v := .int .i64 bh) 0 rfl
  have c_1 := c.cell (v := .int .i64 bm) 1 rfl
  have c_2 := c.cell (v := .int .i64 bz) 2 rfl
  have c_3 := c.cell (v := .int .i64 bf) 3 rfl
  go_wp2
  go_ret
  exact ⟨rfl, hB8⟩
set_option maxRecDepth 100000 in
set_option maxHeartbeats 4000000 in
theorem back_e140_4 (b : Int) (s d : Bool) (n n2 h m sc f : Int) (w : World) (ho : okR b s d = true) (he : (frameR b s d h m sc f).2 = 140) (hn : 0 ≤ n ∧ n < 1073741824) (hn2 : 0 ≤ n2 ∧ n2 < 1073741824) :
    Calls Try.prog 5 #[.agg #[.int .i64 b, .bool s, .bool d], .int .i64 n, .int .i64 n2, .agg #[.int .i64 h, .int .i64 m, .int .i64 sc, .int .i64 f]] w fun e w' => e = .returned (.bool true) ∧ Below w.heap.size w w' := by
  have hB0 := Below.refl w.heap.size w
  have K9 := hide sane_any
  have K15 := hide (fun w => refCheck_any b s d w)
  rw [chkR_ok ho] at K15
  have K12 := hide (fun w => Frame_any b s d h m sc f w)
  generalize (frameR b s d h m sc f).1 = k at K12
  rw [he] at K12
  clear he
  have KA := hide (fun w => Label_any b s d n w)
  have KB := hide (fun w => Label_any b s d n2 w)
  rw [labelR_ok ho hn] at KA
  rw [labelR_ok ho hn2] at KB
  have KF := hide (fun w => Frame_any b s d (labelI b (dropR b d) n).h (labelI b (dropR b d) n).m (labelI b (dropR b d) n).s (labelI b (dropR b d) n).f w)
  rw [label_frame ho hn] at KF
  have KO := hide (fun w => before_any (labelI b (dropR b d) n).h (labelI b (dropR b d) n).m (labelI b (dropR b d) n).s (labelI b (dropR b d) n).f (labelI b (dropR b d) n2).h (labelI b (dropR b d) n2).m (labelI b (dropR b d) n2).s (labelI b (dropR b d) n2).f w)
  rw [label_before ho hn.1 hn2.1] at KO
  unfold Lb.v at KA KB
  dsimp only at KA KB KF
  generalize labelI b (dropR b d) n = xa at KA KF KO
  generalize labelI b (dropR b d) n2 = xb at KB KO
  obtain ⟨ah, am, az, af⟩ := xa
  obtain ⟨bh, bm, bz, bf⟩ := xb
  obtain ⟨n1, n3⟩ := hn
  obtain ⟨n4, n5⟩ := hn2
  dsimp only at KA KB KF KO
  clear ho
  go_enter Try.func5, Try.ntmps5
  go_wp2_with fail
  refine (K9.out _).mono ?_
  rintro e w1 ⟨rfl, hb⟩
  have hB1 := kcall (kalloc (kalloc hB0 _) _) hb
  have r := ((Blk.new _ #[.int .i64 b, .bool s, .bool d] 23).alloc _).bel hb
  have x := (Blk.new1 _ _ #[.int .i64 h, .int .i64 m, .int .i64 sc, .int .i64 f] 25).bel hb
  clear hb hB0
  have r_l := r.lt
  have r_0 := r.cell (v := .int .i64 b) 0 rfl
  have r_1 := r.cell (v := .bool s) 1 rfl
  have r_2 := r.cell (v := .bool d) 2 rfl
  have x_l := x.lt
  have x_0 := x.cell (v := .int .i64 h) 0 rfl
  have x_1 := x.cell (v := .int .i64 m) 1 rfl
  have x_2 := x.cell (v := .int .i64 sc) 2 rfl
  have x_3 := x.cell (v := .int .i64 f) 3 rfl
  go_wp2_with fail
  refine (K15.out _).mono ?_
  rintro e w2 ⟨rfl, hb⟩
  have hB2 := kcall hB1 hb
  replace r := r.bel hb
  replace x := x.bel hb
  clear hb hB1
  have r_l := r.lt
  have r_0 := r.cell (v := .int .i64 b) 0 rfl
  have r_1 := r.cell (v := .bool s) 1 rfl
  have r_2 := r.cell (v := .bool d) 2 rfl
  have x_l := x.lt
  have x_0 := x.cell (v := .int .i64 h) 0 rfl
  have x_1 := x.cell (v := .int .i64 m) 1 rfl
  have x_2 := x.cell (v := .int .i64 sc) 2 rfl
  have x_3 := x.cell (v := .int .i64 f) 3 rfl
  go_wp2_with fail
  refine (K12.out _).mono ?_
  rintro e w3 ⟨rfl, hb⟩
  have hB3 := kcall hB2 hb
  replace r := r.bel hb
  replace x := x.bel hb
  clear hb hB2
  have r_l := r.lt
  have r_0 := r.cell (v := .int .i64 b) 0 rfl
  have r_1 := r.cell (v := .bool s) 1 rfl
  have r_2 := r.cell (v := .bool d) 2 rfl
  have x_l := x.lt
  have x_0 := x.cell (v := .int .i64 h) 0 rfl
  have x_1 := x.cell (v := .int .i64 m) 1 rfl
  have x_2 := x.cell (v := .int .i64 sc) 2 rfl
  have x_3 := x.cell (v := .int .i64 f) 3 rfl
  go_wp2_with fail
  refine (KA.out _).mono ?_
  rintro e w4 ⟨rfl, hb⟩
  have hB4 := kcall hB3 hb
  replace r := r.bel hb
  replace x := x.bel hb
  clear hb hB3
  have r_l := r.lt
  have r_0 := r.cell (v := .int .i64 b) 0 rfl
  have r_1 := r.cell (v := .bool s) 1 rfl
  have r_2 := r.cell (v := .bool d) 2 rfl
  have x_l := x.lt
  have x_0 := x.cell (v := .int .i64 h) 0 rfl
  have x_1 := x.cell (v := .int .i64 m) 1 rfl
  have x_2 := x.cell (v := .int .i64 sc) 2 rfl
  have x_3 := x.cell (v := .int .i64 f) 3 rfl
  go_wp2_with fail
  refine (KB.out _).mono ?_
  rintro e w5 ⟨rfl, hb⟩
  have hB5 := kcall (kalloc hB4 _) hb
  replace r := (r.alloc _).bel hb
  replace x := (x.alloc _).bel hb
  have a := (Blk.new _ #[.int .i64 ah, .int .i64 am, .int .i64 az, .int .i64 af] 25).bel hb
  clear hb hB4
  have r_l := r.lt
  have r_0 := r.cell (v := .int .i64 b) 0 rfl
  have r_1 := r.cell (v := .bool s) 1 rfl
  have r_2 := r.cell (v := .bool d) 2 rfl
  have x_l := x.lt
  have x_0 := x.cell (v := .int .i64 h) 0 rfl
  have x_1 := x.cell (v := .int .i64 m) 1 rfl
  have x_2 := x.cell (v := .int .i64 sc) 2 rfl
  have x_3 := x.cell (v := .int .i64 f) 3 rfl
  have a_l := a.lt
  have a_0 := a.cell (v := .int .i64 ah) 0 rfl
  have a_1 := a.cell (v := .int .i64 am) 1 rfl
  have a_2 := a.cell (v := .int .i64 az) 2 rfl
  have a_3 := a.cell (v := .int .i64 af) 3 rfl
  go_wp2_with fail
  refine (KF.out _).mono ?_
  rintro e w6 ⟨rfl, hb⟩
  have hB6 := kcall (kalloc hB5 _) hb
  replace r := (r.alloc _).bel hb
  replace x := (x.alloc _).bel hb
  replace a := (a.alloc _).bel hb
  have c := (Blk.new _ #[.int .i64 bh, .int .i64 bm, .int .i64 bz, .int .i64 bf] 25).bel hb
  clear hb hB5
  have r_l := r.lt
  have r_0 := r.cell (v := .int .i64 b) 0 rfl
  have r_1 := r.cell (v := .bool s) 1 rfl
  have r_2 := r.cell (v := .bool d) 2 rfl
  have x_l := x.lt
  have x_0 := x.cell (v := .int .i64 h) 0 rfl
  have x_1 := x.cell (v := .int .i64 m) 1 rfl
  have x_2 := x.cell (v := .int .i64 sc) 2 rfl
  have x_3 := x.cell (v := .int .i64 f) 3 rfl
  have a_l := a.lt
  have a_0 := a.cell (v := .int .i64 ah) 0 rfl
  have a_1 := a.cell (v := .int .i64 am) 1 rfl
  have a_2 := a.cell (v := .int .i64 az) 2 rfl
  have a_3 := a.cell (v := .int .i64 af) 3 rfl
  have c_l := c.lt
  have c_0 := c.cell (v := .int .i64 bh) 0 rfl
  have c_1 := c.cell (v := .int .i64 bm) 1 rfl
  have c_2 := c.cell (v := .int .i64 bz) 2 rfl
  have c_3 := c.cell (v := .int .i64 bf) 3 rfl
  go_wp2_with fail
  refine (KO.out _).mono ?_
  rintro e w7 ⟨rfl, hb⟩
  have hB7 := kcall hB6 hb
  replace r := r.bel hb
  replace x := x.bel hb
  replace a := a.bel hb
  replace c := c.bel hb
  clear hb hB6
  have r_l := r.lt
  have r_0 := r.cell (v := .int .i64 b) 0 rfl
  have r_1 := r.cell (v := .bool s) 1 rfl
  have r_2 := r.cell (v := .bool d) 2 rfl
  have x_l := x.lt
  have x_0 := x.cell (v := .int .i64 h) 0 rfl
  have x_1 := x.cell (v := .int .i64 m) 1 rfl
  have x_2 := x.cell (v := .int .i64 sc) 2 rfl
  have x_3 := x.cell (v := .int .i64 f) 3 rfl
  have a_l := a.lt
  have a_0 := a.cell (v := .int .i64 ah) 0 rfl
  have a_1 := a.cell (v := .int .i64 am) 1 rfl
  have a_2 := a.cell (v := .int .i64 az) 2 rfl
  have a_3 := a.cell (v := .int .i64 af) 3 rfl
  have c_l := c.lt
  have c_0 := c.cell (v := .int .i64 bh) 0 rfl
  have c_1 := c.cell (v := .int .i64 bm) 1 rfl
  have c_2 := c.cell (v := .int .i64 bz) 2 rfl
  have c_3 := c.cell (v := .int .i64 bf) 3 rfl
  go_wp2
  go_ret
  exact ⟨rfl, hB7⟩
set_option maxRecDepth 100000 in
set_option maxHeartbeats 4000000 in
theorem back_e2_4 (b : Int) (s d : Bool) (n n2 h m sc f : Int) (w : World) (ho : okR b s d = true) (he : (frameR b s d h m sc f).2 = 2) (hn : 0 ≤ n ∧ n < 1073741824) (hn2 : 0 ≤ n2 ∧ n2 < 1073741824) :
    Calls Try.prog 5 #[.agg #[.int .i64 b, .bool s, .bool d], .int .i64 n, .int .i64 n2, .agg #[.int .i64 h, .int .i64 m, .int .i64 sc, .int .i64 f]] w fun e w' => e = .returned (.bool true) ∧ Below w.heap.size w w' := by
  have hB0 := Below.refl w.heap.size w
  have K9 := hide sane_any
  have K15 := hide (fun w => refCheck_any b s d w)
  rw [chkR_ok ho] at K15
  have K12 := hide (fun w => Frame_any b s d h m sc f w)
  generalize (frameR b s d h m sc f).1 = k at K12
  rw [he] at K12
  clear he
  have KA := hide (fun w => Label_any b s d n w)
  have KB := hide (fun w => Label_any b s d n2 w)
  rw [labelR_ok ho hn] at KA
  rw [labelR_ok ho hn2] at KB
  have KF := hide (fun w => Frame_any b s d (labelI b (dropR b d) n).h (labelI b (dropR b d) n).m (labelI b (dropR b d) n).s (labelI b (dropR b d) n).f w)
  rw [label_frame ho hn] at KF
  have KO := hide (fun w => before_any (labelI b (dropR b d) n).h (labelI b (dropR b d) n).m (labelI b (dropR b d) n).s (labelI b (dropR b d) n).f (labelI b (dropR b d) n2).h (labelI b (dropR b d) n2).m (labelI b (dropR b d) n2).s (labelI b (dropR b d) n2).f w)
  rw [label_before ho hn.1 hn2.1] at KO
  unfold Lb.v at KA KB
  dsimp only at KA KB KF
  generalize labelI b (dropR b d) n = xa at KA KF KO
  generalize labelI b (dropR b d) n2 = xb at KB KO
  obtain ⟨ah, am, az, af⟩ := xa
  obtain ⟨bh, bm, bz, bf⟩ := xb
  obtain ⟨n1, n3⟩ := hn
  obtain ⟨n4, n5⟩ := hn2
  dsimp only at KA KB KF KO
  clear ho
  go_enter Try.func5, Try.ntmps5
  go_wp2_with fail
  refine (K9.out _).mono ?_
  rintro e w1 ⟨rfl, hb⟩
  have hB1 := kcall (kalloc (kalloc hB0 _) _) hb
  have r := ((Blk.new _ #[.int .i64 b, .bool s, .bool d] 23).alloc _).bel hb
  have x := (Blk.new1 _ _ #[.int .i64 h, .int .i64 m, .int .i64 sc, .int .i64 f] 25).bel hb
  clear hb hB0
  have r_l := r.lt
  have r_0 := r.cell (v := .int .i64 b) 0 rfl
  have r_1 := r.cell (v := .bool s) 1 rfl
  have r_2 := r.cell (v := .bool d) 2 rfl
  have x_l := x.lt
  have x_0 := x.cell (v := .int .i64 h) 0 rfl
  have x_1 := x.cell (v := .int .i64 m) 1 rfl
  have x_2 := x.cell (v := .int .i64 sc) 2 rfl
  have x_3 := x.cell (v := .int .i64 f) 3 rfl
  go_wp2_with fail
  refine (K15.out _).mono ?_
  rintro e w2 ⟨rfl, hb⟩
  have hB2 := kcall hB1 hb
  replace r := r.bel hb
  replace x := x.bel hb
  clear hb hB1
  have r_l := r.lt
  have r_0 := r.cell (v := .int .i64 b) 0 rfl
  have r_1 := r.cell (v := .bool s) 1 rfl
  have r_2 := r.cell (v := .bool d) 2 rfl
  have x_l := x.lt
  have x_0 := x.cell (v := .int .i64 h) 0 rfl
  have x_1 := x.cell (v := .int .i64 m) 1 rfl
  have x_2 := x.cell (v := .int .i64 sc) 2 rfl
  have x_3 := x.cell (v := .int .i64 f) 3 rfl
  go_wp2_with fail
  refine (K12.out _).mono ?_
  rintro e w3 ⟨rfl, hb⟩
  have hB3 := kcall hB2 hb
  replace r := r.bel hb
  replace x := x.bel hb
  clear hb hB2
  have r_l := r.lt
  have r_0 := r.cell (v := .int .i64 b) 0 rfl
  have r_1 := r.cell (v := .bool s) 1 rfl
  have r_2 := r.cell (v := .bool d) 2 rfl
  have x_l := x.lt
  have x_0 := x.cell (v := .int .i64 h) 0 rfl
  have x_1 := x.cell (v := .int .i64 m) 1 rfl
  have x_2 := x.cell (v := .int .i64 sc) 2 rfl
  have x_3 := x.cell (v := .int .i64 f) 3 rfl
  go_wp2_with fail
  refine (KA.out _).mono ?_
  rintro e w4 ⟨rfl, hb⟩
  have hB4 := kcall hB3 hb
  replace r := r.bel hb
  replace x := x.bel hb
  clear hb hB3
  have r_l := r.lt
  have r_0 := r.cell (v := .int .i64 b) 0 rfl
  have r_1 := r.cell (v := .bool s) 1 rfl
  have r_2 := r.cell (v := .bool d) 2 rfl
  have x_l := x.lt
  have x_0 := x.cell (v := .int .i64 h) 0 rfl
  have x_1 := x.cell (v := .int .i64 m) 1 rfl
  have x_2 := x.cell (v := .int .i64 sc) 2 rfl
  have x_3 := x.cell (v := .int .i64 f) 3 rfl
  go_wp2_with fail
  refine (KB.out _).mono ?_
  rintro e w5 ⟨rfl, hb⟩
  have hB5 := kcall (kalloc hB4 _) hb
  replace r := (r.alloc _).bel hb
  replace x := (x.alloc _).bel hb
  have a := (Blk.new _ #[.int .i64 ah, .int .i64 am, .int .i64 az, .int .i64 af] 25).bel hb
  clear hb hB4
  have r_l := r.lt
  have r_0 := r.cell (v := .int .i64 b) 0 rfl
  have r_1 := r.cell (v := .bool s) 1 rfl
  have r_2 := r.cell (v := .bool d) 2 rfl
  have x_l := x.lt
  have x_0 := x.cell (v := .int .i64 h) 0 rfl
  have x_1 := x.cell (v := .int .i64 m) 1 rfl
  have x_2 := x.cell (v := .int .i64 sc) 2 rfl
  have x_3 := x.cell (v := .int .i64 f) 3 rfl
  have a_l := a.lt
  have a_0 := a.cell (v := .int .i64 ah) 0 rfl
  have a_1 := a.cell (v := .int .i64 am) 1 rfl
  have a_2 := a.cell (v := .int .i64 az) 2 rfl
  have a_3 := a.cell (v := .int .i64 af) 3 rfl
  go_wp2_with fail
  refine (KF.out _).mono ?_
  rintro e w6 ⟨rfl, hb⟩
  have hB6 := kcall (kalloc hB5 _) hb
  replace r := (r.alloc _).bel hb
  replace x := (x.alloc _).bel hb
  replace a := (a.alloc _).bel hb
  have c := (Blk.new _ #[.int .i64 bh, .int .i64 bm, .int .i64 bz, .int .i64 bf] 25).bel hb
  clear hb hB5
  have r_l := r.lt
  have r_0 := r.cell (v := .int .i64 b) 0 rfl
  have r_1 := r.cell (v := .bool s) 1 rfl
  have r_2 := r.cell (v := .bool d) 2 rfl
  have x_l := x.lt
  have x_0 := x.cell (v := .int .i64 h) 0 rfl
  have x_1 := x.cell (v := .int .i64 m) 1 rfl
  have x_2 := x.cell (v := .int .i64 sc) 2 rfl
  have x_3 := x.cell (v := .int .i64 f) 3 rfl
  have a_l := a.lt
  have a_0 := a.cell (v := .int .i64 ah) 0 rfl
  have a_1 := a.cell (v := .int .i64 am) 1 rfl
  have a_2 := a.cell (v := .int .i64 az) 2 rfl
  have a_3 := a.cell (v := .int .i64 af) 3 rfl
  have c_l := c.lt
  have c_0 := c.cell (v := .int .i64 bh) 0 rfl
  have c_1 := c.cell (v := .int .i64 bm) 1 rfl
  have c_2 := c.cell (v := .int .i64 bz) 2 rfl
  have c_3 := c.cell (v := .int .i64 bf) 3 rfl
  go_wp2_with fail
  refine (KO.out _).mono ?_
  rintro e w7 ⟨rfl, hb⟩
  have hB7 := kcall hB6 hb
  replace r := r.bel hb
  replace x := x.bel hb
  replace a := a.bel hb
  replace c := c.bel hb
  clear hb hB6
  have r_l := r.lt
  have r_0 := r.cell (v := .int .i64 b) 0 rfl
  have r_1 := r.cell (v := .bool s) 1 rfl
  have r_2 := r.cell (v := .bool d) 2 rfl
  have x_l := x.lt
  have x_0 := x.cell (v := .int .i64 h) 0 rfl
  have x_1 := x.cell (v := .int .i64 m) 1 rfl
  have x_2 := x.cell (v := .int .i64 sc) 2 rfl
  have x_3 := x.cell (v := .int .i64 f) 3 rfl
  have a_l := a.lt
  have a_0 := a.cell (v := .int .i64 ah) 0 rfl
  have a_1 := a.cell (v := .int .i64 am) 1 rfl
  have a_2 := a.cell (v := .int .i64 az) 2 rfl
  have a_3 := a.cell (v := .int .i64 af) 3 rfl
  have c_l := c.lt
  have c_0 := c.cell (v := .int .i64 bh) 0 rfl
  have c_1 := c.cell (v := .int .i64 bm) 1 rfl
  have c_2 := c.cell (v := .int .i64 bz) 2 rfl
  have c_3 := c.cell (v := .int .i64 bf) 3 rfl
  go_wp2
  go_ret
  exact ⟨rfl, hB7⟩
theorem framesBack_law (b : Int) (s d : Bool) (n n2 h m sc f : Int) (w : World) :
    Calls Try.prog 5 #[.agg #[.int .i64 b, .bool s, .bool d], .int .i64 n, .int .i64 n2, .agg #[.int .i64 h, .int .i64 m, .int .i64 sc, .int .i64 f]] w fun e w' => e = .returned (.bool true) ∧ Below w.heap.size w w' := by
  cases ho : okR b s d
  · exact back_bad b s d n n2 h m sc f w ho
  by_cases h0 : n < 0
  · rcases frameR_e b s d h m sc f with he | he | he
    · exact back_e0_0 b s d n n2 h m sc f w ho he h0
    · exact back_e140_0 b s d n n2 h m sc f w ho he h0
    · exact back_e2_0 b s d n n2 h m sc f w ho he h0
  by_cases h1 : n < 1073741824
  case neg =>
    rcases frameR_e b s d h m sc f with he | he | he
    · exact back_e0_1 b s d n n2 h m sc f w ho he h0 (by omega)
    · exact back_e140_1 b s d n n2 h m sc f w ho he h0 (by omega)
    · exact back_e2_1 b s d n n2 h m sc f w ho he h0 (by omega)
  by_cases h2 : n2 < 0
  · rcases frameR_e b s d h m sc f with he | he | he
    · exact back_e0_2 b s d n n2 h m sc f w ho he h0 h1 h2
    · exact back_e140_2 b s d n n2 h m sc f w ho he h0 h1 h2
    · exact back_e2_2 b s d n n2 h m sc f w ho he h0 h1 h2
  by_cases h3 : n2 < 1073741824
  case neg =>
    rcases frameR_e b s d h m sc f with he | he | he
    · exact back_e0_3 b s d n n2 h m sc f w ho he h0 h1 h2 (by omega)
    · exact back_e140_3 b s d n n2 h m sc f w ho he h0 h1 h2 (by omega)
    · exact back_e2_3 b s d n n2 h m sc f w ho he h0 h1 h2 (by omega)
  rcases frameR_e b s d h m sc f with he | he | he
  · exact back_e0_4 b s d n n2 h m sc f w ho he ⟨by omega, h1⟩ ⟨by omega, h3⟩
  · exact back_e140_4 b s d n n2 h m sc f w ho he ⟨by omega, h1⟩ ⟨by omega, h3⟩
  · exact back_e2_4 b s d n n2 h m sc f w ho he ⟨by omega, h1⟩ ⟨by omega, h3⟩
end Go.Proofs.Ytbifppncjplebaa

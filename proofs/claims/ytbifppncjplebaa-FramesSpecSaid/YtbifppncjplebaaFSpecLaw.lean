/-
  FramesSpec: its walk: true, whatever the input.
-/
import Derived.Test.YtbifppncjplebaaFSane
import Derived.Test.YtbifppncjplebaaBlk
namespace Go.Proofs.Ytbifppncjplebaa
open Go.RowKit Go.Mine

set_option maxRecDepth 100000 in
set_option maxHeartbeats 2000000 in
theorem framesSpec_law (b : Int) (s d : Bool) (n h m sc f : Int) (w : World) :
    Calls Try.prog 3 #[.agg #[.int .i64 b, .bool s, .bool d], .int .i64 n, .agg #[.int .i64 h, .int .i64 m, .int .i64 sc, .int .i64 f]] w fun e w' => e = .returned (.bool true) ∧ Below w.heap.size w w' := by
  have hB0 := Below.refl w.heap.size w
  have K9 := hide sane_any
  have K10 := hide (fun w => Label_any b s d n w)
  have K11 := hide (fun w => refLabel_any b s d n w)
  have K12 := hide (fun w => Frame_any b s d h m sc f w)
  have K13 := hide (fun w => refFrame_any b s d h m sc f w)
  have K14 := hide (fun w => fcheck_any b s d w)
  have K15 := hide (fun w => refCheck_any b s d w)
  generalize (labelR b s d n).2 = le at K10 K11
  generalize (labelR b s d n).1 = x at K10 K11
  obtain ⟨xh, xm, xs, xf⟩ := x
  generalize (frameR b s d h m sc f).2 = fe at K12 K13
  generalize (frameR b s d h m sc f).1 = fn at K12 K13
  generalize chkR b s d = ck at K14 K15
  unfold Lb.v at K10 K11
  dsimp only at K10 K11
  go_enter Try.func3, Try.ntmps3
  go_wp2_with fail
  refine (K9.out _).mono ?_
  rintro e w1 ⟨rfl, hb⟩
  have hB1 := kcall (kalloc (kalloc hB0 _) _) hb
  have r := ((Blk.new _ #[.int .i64 b, .bool s, .bool d] 23).alloc _).bel hb
  have x := (Blk.new1 _ _ #[.int .i64 h, .int .i64 m, .int .i64 sc, .int .i64 f] 25).bel hb
  clear hb hB0
  have r_l := r.lt
  have r_0 := r.cell (v := .int .i64 b) 0 rfl
  have r_1 := r.cell (v := .bool s) 1 rfl
  have r_2 := r.cell (v := .bool d) 2 rfl
  have x_l := x.lt
  have x_0 := x.cell (v := .int .i64 h) 0 rfl
  have x_1 := x.cell (v := .int .i64 m) 1 rfl
  have x_2 := x.cell (v := .int .i64 sc) 2 rfl
  have x_3 := x.cell (v := .int .i64 f) 3 rfl
  go_wp2_with fail
  refine (K10.out _).mono ?_
  rintro e w2 ⟨rfl, hb⟩
  have hB2 := kcall hB1 hb
  replace r := r.bel hb
  replace x := x.bel hb
  clear hb hB1
  have r_l := r.lt
  have r_0 := r.cell (v := .int .i64 b) 0 rfl
  have r_1 := r.cell (v := .bool s) 1 rfl
  have r_2 := r.cell (v := .bool d) 2 rfl
  have x_l := x.lt
  have x_0 := x.cell (v := .int .i64 h) 0 rfl
  have x_1 := x.cell (v := .int .i64 m) 1 rfl
  have x_2 := x.cell (v := .int .i64 sc) 2 rfl
  have x_3 := x.cell (v := .int .i64 f) 3 rfl
  go_wp2_with fail
  refine (K11.out _).mono ?_
  rintro e w3 ⟨rfl, hb⟩
  have hB3 := kcall (kalloc hB2 _) hb
  replace r := (r.alloc _).bel hb
  replace x := (x.alloc _).bel hb
  have a := (Blk.new _ #[.int .i64 xh, .int .i64 xm, .int .i64 xs, .int .i64 xf] 25).bel hb
  clear hb hB2
  have r_l := r.lt
  have r_0 := r.cell (v := .int .i64 b) 0 rfl
  have r_1 := r.cell (v := .bool s) 1 rfl
  have r_2 := r.cell (v := .bool d) 2 rfl
  have x_l := x.lt
  have x_0 := x.cell (v := .int .i64 h) 0 rfl
  have x_1 := x.cell (v := .int .i64 m) 1 rfl
  have x_2 := x.cell (v := .int .i64 sc) 2 rfl
  have x_3 := x.cell (v := .int .i64 f) 3 rfl
  have a_l := a.lt
  have a_0 := a.cell (v := .int .i64 xh) 0 rfl
  have a_1 := a.cell (v := .int .i64 xm) 1 rfl
  have a_2 := a.cell (v := .int .i64 xs) 2 rfl
  have a_3 := a.cell (v := .int .i64 xf) 3 rfl
  go_wp2_with fail
  refine (K12.out _).mono ?_
  rintro e w4 ⟨rfl, hb⟩
  have hB4 := kcall (kalloc hB3 _) hb
  replace r := (r.alloc _).bel hb
  replace x := (x.alloc _).bel hb
  replace a := (a.alloc _).bel hb
  have c := (Blk.new _ #[.int .i64 xh, .int .i64 xm, .int .i64 xs, .int .i64 xf] 25).bel hb
  clear hb hB3
  have r_l := r.lt
  have r_0 := r.cell (v := .int .i64 b) 0 rfl
  have r_1 := r.cell (v := .bool s) 1 rfl
  have r_2 := r.cell (v := .bool d) 2 rfl
  have x_l := x.lt
  have x_0 := x.cell (v := .int .i64 h) 0 rfl
  have x_1 := x.cell (v := .int .i64 m) 1 rfl
  have x_2 := x.cell (v := .int .i64 sc) 2 rfl
  have x_3 := x.cell (v := .int .i64 f) 3 rfl
  have a_l := a.lt
  have a_0 := a.cell (v := .int .i64 xh) 0 rfl
  have a_1 := a.cell (v := .int .i64 xm) 1 rfl
  have a_2 := a.cell (v := .int .i64 xs) 2 rfl
  have a_3 := a.cell (v := .int .i64 xf) 3 rfl
  have c_l := c.lt
  have c_0 := c.cell (v := .int .i64 xh) 0 rfl
  have c_1 := c.cell (v := .int .i64 xm) 1 rfl
  have c_2 := c.cell (v := .int .i64 xs) 2 rfl
  have c_3 := c.cell (v := .int .i64 xf) 3 rfl
  go_wp2_with fail
  refine (K13.out _).mono ?_
  rintro e w5 ⟨rfl, hb⟩
  have hB5 := kcall hB4 hb
  replace r := r.bel hb
  replace x := x.bel hb
  replace a := a.bel hb
  replace c := c.bel hb
  clear hb hB4
  have r_l := r.lt
  have r_0 := r.cell (v := .int .i64 b) 0 rfl
  have r_1 := r.cell (v := .bool s) 1 rfl
  have r_2 := r.cell (v := .bool d) 2 rfl
  have x_l := x.lt
  have x_0 := x.cell (v := .int .i64 h) 0 rfl
  have x_1 := x.cell (v := .int .i64 m) 1 rfl
  have x_2 := x.cell (v := .int .i64 sc) 2 rfl
  have x_3 := x.cell (v := .int .i64 f) 3 rfl
  have a_l := a.lt
  have a_0 := a.cell (v := .int .i64 xh) 0 rfl
  have a_1 := a.cell (v := .int .i64 xm) 1 rfl
  have a_2 := a.cell (v := .int .i64 xs) 2 rfl
  have a_3 := a.cell (v := .int .i64 xf) 3 rfl
  have c_l := c.lt
  have c_0 := c.cell (v := .int .i64 xh) 0 rfl
  have c_1 := c.cell (v := .int .i64 xm) 1 rfl
  have c_2 := c.cell (v := .int .i64 xs) 2 rfl
  have c_3 := c.cell (v := .int .i64 xf) 3 rfl
  go_wp2_with fail
  have qr0 := r.bw (v := .int .i64 b) 0 rfl
  have qr1 := r.bw (v := .bool s) 1 rfl
  have qr2 := r.bw (v := .bool d) 2 rfl
  have qa0 := a.bw (v := .int .i64 xh) 0 rfl
  have qa1 := a.bw (v := .int .i64 xm) 1 rfl
  have qa2 := a.bw (v := .int .i64 xs) 2 rfl
  have qa3 := a.bw (v := .int .i64 xf) 3 rfl
  have qc0 := c.bw (v := .int .i64 xh) 0 rfl
  have qc1 := c.bw (v := .int .i64 xm) 1 rfl
  have qc2 := c.bw (v := .int .i64 xs) 2 rfl
  have qc3 := c.bw (v := .int .i64 xf) 3 rfl
  refine wp_quiet_below (by kernel_rfl) (by kernel_rfl) ?_
  repeat (go_big_quiet_step (first | (go_at_call 14; exact quiet_below (K14.out _)) | (go_at_call 15; exact quiet_below (K15.out _))))
  refine wpQuiet_nil ?_
  rintro _ ⟨x, rfl⟩
  have hx := x.below
  go_wp2
  go_ret
  exact ⟨rfl, kcall hB5 hx⟩
end Go.Proofs.Ytbifppncjplebaa

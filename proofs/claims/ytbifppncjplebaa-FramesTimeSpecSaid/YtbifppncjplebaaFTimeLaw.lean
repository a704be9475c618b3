/-
  FramesTimeSpec: its walk: true, whatever the input.
-/
import Derived.Test.YtbifppncjplebaaFSane
import Derived.Test.YtbifppncjplebaaBlk
namespace Go.Proofs.Ytbifppncjplebaa
open Go.RowKit Go.Mine

set_option maxRecDepth 100000 in
set_option maxHeartbeats 4000000 in
theorem framesTimeSpec_law (b : Int) (s d : Bool) (n t : Int) (w : World) :
    Calls Try.prog 4 #[.agg #[.int .i64 b, .bool s, .bool d], .int .i64 n, .int .i64 t] w fun e w' => e = .returned (.bool true) ∧ Below w.heap.size w w' := by
  have hB0 := Below.refl w.heap.size w
  have K9 := hide sane_any
  have K16 := hide (fun w => Start_any b s d n w)
  have K17 := hide (fun w => refStart_any b s d n w)
  have K18 := hide (fun w => At_any b s d t w)
  have K19 := hide (fun w => refAt_any b s d t w)
  generalize (startR b s d n).2 = se at K16 K17
  generalize (startR b s d n).1 = sn at K16 K17
  generalize (atR b s d t).2 = ae at K18 K19
  generalize (atR b s d t).1 = an at K18 K19
  go_enter Try.func4, Try.ntmps4
  go_wp2_with fail
  refine (K9.out _).mono ?_
  rintro e w1 ⟨rfl, hb⟩
  have hB1 := kcall (kalloc hB0 _) hb
  have r := (Blk.new _ #[.int .i64 b, .bool s, .bool d] 23).bel hb
  clear hb hB0
  have r_l := r.lt
  have r_0 := r.cell (v := .int .i64 b) 0 rfl
  have r_1 := r.cell (v := .bool s) 1 rfl
  have r_2 := r.cell (v := .bool d) 2 rfl
  go_wp2_with fail
  refine (K16.out _).mono ?_
  rintro e w2 ⟨rfl, hb⟩
  have hB2 := kcall hB1 hb
  replace r := r.bel hb
  clear hb hB1
  have r_l := r.lt
  have r_0 := r.cell (v := .int .i64 b) 0 rfl
  have r_1 := r.cell (v := .bool s) 1 rfl
  have r_2 := r.cell (v := .bool d) 2 rfl
  go_wp2_with fail
  refine (K17.out _).mono ?_
  rintro e w3 ⟨rfl, hb⟩
  have hB3 := kcall hB2 hb
  replace r := r.bel hb
  clear hb hB2
  have r_l := r.lt
  have r_0 := r.cell (v := .int .i64 b) 0 rfl
  have r_1 := r.cell (v := .bool s) 1 rfl
  have r_2 := r.cell (v := .bool d) 2 rfl
  go_wp2_with fail
  refine (K18.out _).mono ?_
  rintro e w4 ⟨rfl, hb⟩
  have hB4 := kcall hB3 hb
  replace r := r.bel hb
  clear hb hB3
  have r_l := r.lt
  have r_0 := r.cell (v := .int .i64 b) 0 rfl
  have r_1 := r.cell (v := .bool s) 1 rfl
  have r_2 := r.cell (v := .bool d) 2 rfl
  go_wp2_with fail
  refine (K19.out _).mono ?_
  rintro e w5 ⟨rfl, hb⟩
  have hB5 := kcall hB4 hb
  replace r := r.bel hb
  clear hb hB4
  have r_l := r.lt
  have r_0 := r.cell (v := .int .i64 b) 0 rfl
  have r_1 := r.cell (v := .bool s) 1 rfl
  have r_2 := r.cell (v := .bool d) 2 rfl
  go_wp2
  go_ret
  exact ⟨rfl, hB5⟩
end Go.Proofs.Ytbifppncjplebaa

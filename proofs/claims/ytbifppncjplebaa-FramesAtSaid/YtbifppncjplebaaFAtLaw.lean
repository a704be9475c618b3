/-
  FramesAt: its walk: true, whatever the input.
-/
import Derived.Test.YtbifppncjplebaaFPure3
import Derived.Test.YtbifppncjplebaaBlk
namespace Go.Proofs.Ytbifppncjplebaa
open Go.RowKit Go.Mine

set_option maxRecDepth 100000 in
set_option maxHeartbeats 4000000 in
theorem at_bad (b : Int) (s d : Bool) (n t : Int) (w : World) (ho : okR b s d = false) :
    Calls Try.prog 7 #[.agg #[.int .i64 b, .bool s, .bool d], .int .i64 n, .int .i64 t] w fun e w' => e = .returned (.bool true) ∧ Below w.heap.size w w' := by
  have hB0 := Below.refl w.heap.size w
  have K9 := hide sane_any
  have K15 := hide (fun w => refCheck_any b s d w)
  rw [chkR_bad ho] at K15
  clear ho
  go_enter Try.func7, Try.ntmps7
  go_wp2_with fail
  refine (K9.out _).mono ?_
  rintro e w1 ⟨rfl, hb⟩
  have hB1 := kcall (kalloc hB0 _) hb
  have r := (Blk.new _ #[.int .i64 b, .bool s, .bool d] 23).bel hb
  clear hb hB0 
  have r_l := r.lt
  have r_0 := r.cell (v := .int .i64 b) 0 rfl
  have r_1 := r.cell (v := .bool s) 1 rfl
  have r_2 := r.cell (v := .bool d) 2 rfl
  go_wp2_with fail
  refine (K15.out _).mono ?_
  rintro e w2 ⟨rfl, hb⟩
  have hB2 := kcall hB1 hb
  replace r := r.bel hb
  clear hb hB1 r_l r_0 r_1 r_2
  have r_l := r.lt
  have r_0 := r.cell (v := .int .i64 b) 0 rfl
  have r_1 := r.cell (v := .bool s) 1 rfl
  have r_2 := r.cell (v := .bool d) 2 rfl
  go_wp2
  go_ret
  first | exact ⟨rfl, hB2⟩ | exact ⟨ret_bool (by simp; omega), hB2⟩
set_option maxRecDepth 100000 in
set_option maxHeartbeats 4000000 in
theorem at_r0 (b : Int) (s d : Bool) (n t : Int) (w : World) (ho : okR b s d = true) (hr : n < 0) :
    Calls Try.prog 7 #[.agg #[.int .i64 b, .bool s, .bool d], .int .i64 n, .int .i64 t] w fun e w' => e = .returned (.bool true) ∧ Below w.heap.size w w' := by
  have hB0 := Below.refl w.heap.size w
  have K9 := hide sane_any
  have K15 := hide (fun w => refCheck_any b s d w)
  rw [chkR_ok ho] at K15
  clear ho
  go_enter Try.func7, Try.ntmps7
  go_wp2_with fail
  refine (K9.out _).mono ?_
  rintro e w1 ⟨rfl, hb⟩
  have hB1 := kcall (kalloc hB0 _) hb
  have r := (Blk.new _ #[.int .i64 b, .bool s, .bool d] 23).bel hb
  clear hb hB0 
  have r_l := r.lt
  have r_0 := r.cell (v := .int .i64 b) 0 rfl
  have r_1 := r.cell (v := .bool s) 1 rfl
  have r_2 := r.cell (v := .bool d) 2 rfl
  go_wp2_with fail
  refine (K15.out _).mono ?_
  rintro e w2 ⟨rfl, hb⟩
  have hB2 := kcall hB1 hb
  replace r := r.bel hb
  clear hb hB1 r_l r_0 r_1 r_2
  have r_l := r.lt
  have r_0 := r.cell (v := .int .i64 b) 0 rfl
  have r_1 := r.cell (v := .bool s) 1 rfl
  have r_2 := r.cell (v := .bool d) 2 rfl
  go_wp2
  go_ret
  first | exact ⟨rfl, hB2⟩ | exact ⟨ret_bool (by simp; omega), hB2⟩
set_option maxRecDepth 100000 in
set_option maxHeartbeats 4000000 in
theorem at_r1 (b : Int) (s d : Bool) (n t : Int) (w : World) (ho : okR b s d = true) (h0 : ¬ n < 0) (hr : 1073741823 ≤ n) :
    Calls Try.prog 7 #[.agg #[.int .i64 b, .bool s, .bool d], .int .i64 n, .int .i64 t] w fun e w' => e = .returned (.bool true) ∧ Below w.heap.size w w' := by
  have hB0 := Below.refl w.heap.size w
  have K9 := hide sane_any
  have K15 := hide (fun w => refCheck_any b s d w)
  rw [chkR_ok ho] at K15
  clear ho
  go_enter Try.func7, Try.ntmps7
  go_wp2_with fail
  refine (K9.out _).mono ?_
  rintro e w1 ⟨rfl, hb⟩
  have hB1 := kcall (kalloc hB0 _) hb
  have r := (Blk.new _ #[.int .i64 b, .bool s, .bool d] 23).bel hb
  clear hb hB0 
  have r_l := r.lt
  have r_0 := r.cell (v := .int .i64 b) 0 rfl
  have r_1 := r.cell (v := .bool s) 1 rfl
  have r_2 := r.cell (v := .bool d) 2 rfl
  go_wp2_with fail
  refine (K15.out _).mono ?_
  rintro e w2 ⟨rfl, hb⟩
  have hB2 := kcall hB1 hb
  replace r := r.bel hb
  clear hb hB1 r_l r_0 r_1 r_2
  have r_l := r.lt
  have r_0 := r.cell (v := .int .i64 b) 0 rfl
  have r_1 := r.cell (v := .bool s) 1 rfl
  have r_2 := r.cell (v := .bool d) 2 rfl
  go_wp2
  go_ret
  first | exact ⟨rfl, hB2⟩ | exact ⟨ret_bool (by simp; omega), hB2⟩
set_option maxRecDepth 100000 in
set_option maxHeartbeats 4000000 in
theorem at_r2 (b : Int) (s d : Bool) (n t : Int) (w : World) (ho : okR b s d = true) (h0 : ¬ n < 0) (h1 : n < 1073741823) (hr : t < 0) :
    Calls Try.prog 7 #[.agg #[.int .i64 b, .bool s, .bool d], .int .i64 n, .int .i64 t] w fun e w' => e = .returned (.bool true) ∧ Below w.heap.size w w' := by
  have hB0 := Below.refl w.heap.size w
  have K9 := hide sane_any
  have K15 := hide (fun w => refCheck_any b s d w)
  rw [chkR_ok ho] at K15
  clear ho
  go_enter Try.func7, Try.ntmps7
  go_wp2_with fail
  refine (K9.out _).mono ?_
  rintro e w1 ⟨rfl, hb⟩
  have hB1 := kcall (kalloc hB0 _) hb
  have r := (Blk.new _ #[.int .i64 b, .bool s, .bool d] 23).bel hb
  clear hb hB0 
  have r_l := r.lt
  have r_0 := r.cell (v := .int .i64 b) 0 rfl
  have r_1 := r.cell (v := .bool s) 1 rfl
  have r_2 := r.cell (v := .bool d) 2 rfl
  go_wp2_with fail
  refine (K15.out _).mono ?_
  rintro e w2 ⟨rfl, hb⟩
  have hB2 := kcall hB1 hb
  replace r := r.bel hb
  clear hb hB1 r_l r_0 r_1 r_2
  have r_l := r.lt
  have r_0 := r.cell (v := .int .i64 b) 0 rfl
  have r_1 := r.cell (v := .bool s) 1 rfl
  have r_2 := r.cell (v := .bool d) 2 rfl
  go_wp2
  go_ret
  first | exact ⟨rfl, hB2⟩ | exact ⟨ret_bool (by simp; omega), hB2⟩
set_option maxRecDepth 100000 in
set_option maxHeartbeats 4000000 in
theorem at_r3 (b : Int) (s d : Bool) (n t : Int) (w : World) (ho : okR b s d = true) (h0 : ¬ n < 0) (h1 : n < 1073741823) (h2 : ¬ t < 0) (hr : 1099511627776 ≤ t) :
    Calls Try.prog 7 #[.agg #[.int .i64 b, .bool s, .bool d], .int .i64 n, .int .i64 t] w fun e w' => e = .returned (.bool true) ∧ Below w.heap.size w w' := by
  have hB0 := Below.refl w.heap.size w
  have K9 := hide sane_any
  have K15 := hide (fun w => refCheck_any b s d w)
  rw [chkR_ok ho] at K15
  clear ho
  go_enter Try.func7, Try.ntmps7
  go_wp2_with fail
  refine (K9.out _).mono ?_
  rintro e w1 ⟨rfl, hb⟩
  have hB1 := kcall (kalloc hB0 _) hb
  have r := (Blk.new _ #[.int .i64 b, .bool s, .bool d] 23).bel hb
  clear hb hB0 
  have r_l := r.lt
  have r_0 := r.cell (v := .int .i64 b) 0 rfl
  have r_1 := r.cell (v := .bool s) 1 rfl
  have r_2 := r.cell (v := .bool d) 2 rfl
  go_wp2_with fail
  refine (K15.out _).mono ?_
  rintro e w2 ⟨rfl, hb⟩
  have hB2 := kcall hB1 hb
  replace r := r.bel hb
  clear hb hB1 r_l r_0 r_1 r_2
  have r_l := r.lt
  have r_0 := r.cell (v := .int .i64 b) 0 rfl
  have r_1 := r.cell (v := .bool s) 1 rfl
  have r_2 := r.cell (v := .bool d) 2 rfl
  go_wp2
  go_ret
  first | exact ⟨rfl, hB2⟩ | exact ⟨ret_bool (by simp; omega), hB2⟩
set_option maxRecDepth 100000 in
set_option maxHeartbeats 4000000 in
theorem at_out (b : Int) (s d : Bool) (n t : Int) (w : World) (ho : okR b s d = true) (hn : 0 ≤ n ∧ n < 1073741823) (ht : 0 ≤ t ∧ t < 1099511627776) (he : (atR b s d t).2 = 2) (h3 : st b (msR s) (n + 1) ≤ t) :
    Calls Try.prog 7 #[.agg #[.int .i64 b, .bool s, .bool d], .int .i64 n, .int .i64 t] w fun e w' => e = .returned (.bool true) ∧ Below w.heap.size w w' := by
  have hB0 := Below.refl w.heap.size w
  have K9 := hide sane_any
  have K15 := hide (fun w => refCheck_any b s d w)
  rw [chkR_ok ho] at K15
  have hlt := st_lt (n := n) (bm_of ho)
  have KS := hide (fun w => Start_any b s d n w)
  have KU := hide (fun w => Start_any b s d (n + 1) w)
  have KO := hide (fun w => At_any b s d (st b (msR s) n) w)
  have KA := hide (fun w => At_any b s d t w)
  rw [startR_ok ho (by omega)] at KS
  rw [startR_ok ho (by omega)] at KU
  rw [atR_own ho (by omega)] at KO
  rw [he] at KA
  obtain ⟨n1, n2⟩ := hn
  obtain ⟨t1, t2⟩ := ht
  generalize st b (msR s) n = F at *
  generalize st b (msR s) (n + 1) = U at *
  generalize (atR b s d t).1 = k at *
  clear he ho
  go_enter Try.func7, Try.ntmps7
  go_wp2_with fail
  refine (K9.out _).mono ?_
  rintro e w1 ⟨rfl, hb⟩
  have hB1 := kcall (kalloc hB0 _) hb
  have r := (Blk.new _ #[.int .i64 b, .bool s, .bool d] 23).bel hb
  clear hb hB0 
  have r_l := r.lt
  have r_0 := r.cell (v := .int .i64 b) 0 rfl
  have r_1 := r.cell (v := .bool s) 1 rfl
  have r_2 := r.cell (v := .bool d) 2 rfl
  go_wp2_with fail
  refine (K15.out _).mono ?_
  rintro e w2 ⟨rfl, hb⟩
  have hB2 := kcall hB1 hb
  replace r := r.bel hb
  clear hb hB1 r_l r_0 r_1 r_2
  have r_l := r.lt
  have r_0 := r.cell (v := .int .i64 b) 0 rfl
  have r_1 := r.cell (v := .bool s) 1 rfl
  have r_2 := r.cell (v := .bool d) 2 rfl
  go_wp2_with fail
  refine (KS.out _).mono ?_
  rintro e w3 ⟨rfl, hb⟩
  have hB3 := kcall hB2 hb
  replace r := r.bel hb
  clear hb hB2 r_l r_0 r_1 r_2
  have r_l := r.lt
  have r_0 := r.cell (v := .int .i64 b) 0 rfl
  have r_1 := r.cell (v := .bool s) 1 rfl
  have r_2 := r.cell (v := .bool d) 2 rfl
  go_wp2_with fail
  refine (KU.out _).mono ?_
  rintro e w4 ⟨rfl, hb⟩
  have hB4 := kcall hB3 hb
  replace r := r.bel hb
  clear hb hB3 r_l r_0 r_1 r_2
  have r_l := r.lt
  have r_0 := r.cell (v := .int .i64 b) 0 rfl
  have r_1 := r.cell (v := .bool s) 1 rfl
  have r_2 := r.cell (v := .bool d) 2 rfl
  go_wp2_with fail
  refine (KO.out _).mono ?_
  rintro e w5 ⟨rfl, hb⟩
  have hB5 := kcall hB4 hb
  replace r := r.bel hb
  clear hb hB4 r_l r_0 r_1 r_2
  have r_l := r.lt
  have r_0 := r.cell (v := .int .i64 b) 0 rfl
  have r_1 := r.cell (v := .bool s) 1 rfl
  have r_2 := r.cell (v := .bool d) 2 rfl
  go_wp2_with fail
  refine (KA.out _).mono ?_
  rintro e w6 ⟨rfl, hb⟩
  have hB6 := kcall hB5 hb
  replace r := r.bel hb
  clear hb hB5 r_l r_0 r_1 r_2
  have r_l := r.lt
  have r_0 := r.cell (v := .int .i64 b) 0 rfl
  have r_1 := r.cell (v := .bool s) 1 rfl
  have r_2 := r.cell (v := .bool d) 2 rfl
  go_wp2
  go_ret
  first | exact ⟨rfl, hB6⟩ | exact ⟨ret_bool (by simp; omega), hB6⟩
set_option maxRecDepth 100000 in
set_option maxHeartbeats 4000000 in
theorem at_lo1 (b : Int) (s d : Bool) (n t : Int) (w : World) (ho : okR b s d = true) (hn : 0 ≤ n ∧ n < 1073741823) (ht : 0 ≤ t ∧ t < 1099511627776) (he : (atR b s d t).2 = 0) (h3 : t < st b (msR s) n) (h4 : ((atR b s d t).1 == n) = false) :
    Calls Try.prog 7 #[.agg #[.int .i64 b, .bool s, .bool d], .int .i64 n, .int .i64 t] w fun e w' => e = .returned (.bool true) ∧ Below w.heap.size w w' := by
  have hB0 := Below.refl w.heap.size w
  have K9 := hide sane_any
  have K15 := hide (fun w => refCheck_any b s d w)
  rw [chkR_ok ho] at K15
  have hlt := st_lt (n := n) (bm_of ho)
  have KS := hide (fun w => Start_any b s d n w)
  have KU := hide (fun w => Start_any b s d (n + 1) w)
  have KO := hide (fun w => At_any b s d (st b (msR s) n) w)
  have KA := hide (fun w => At_any b s d t w)
  rw [startR_ok ho (by omega)] at KS
  rw [startR_ok ho (by omega)] at KU
  rw [atR_own ho (by omega)] at KO
  rw [he] at KA
  obtain ⟨n1, n2⟩ := hn
  obtain ⟨t1, t2⟩ := ht
  generalize st b (msR s) n = F at *
  generalize st b (msR s) (n + 1) = U at *
  generalize (atR b s d t).1 = k at *
  clear he ho
  go_enter Try.func7, Try.ntmps7
  go_wp2_with fail
  refine (K9.out _).mono ?_
  rintro e w1 ⟨rfl, hb⟩
  have hB1 := kcall (kalloc hB0 _) hb
  have r := (Blk.new _ #[.int .i64 b, .bool s, .bool d] 23).bel hb
  clear hb hB0 
  have r_l := r.lt
  have r_0 := r.cell (v := .int .i64 b) 0 rfl
  have r_1 := r.cell (v := .bool s) 1 rfl
  have r_2 := r.cell (v := .bool d) 2 rfl
  go_wp2_with fail
  refine (K15.out _).mono ?_
  rintro e w2 ⟨rfl, hb⟩
  have hB2 := kcall hB1 hb
  replace r := r.bel hb
  clear hb hB1 r_l r_0 r_1 r_2
  have r_l := r.lt
  have r_0 := r.cell (v := .int .i64 b) 0 rfl
  have r_1 := r.cell (v := .bool s) 1 rfl
  have r_2 := r.cell (v := .bool d) 2 rfl
  go_wp2_with fail
  refine (KS.out _).mono ?_
  rintro e w3 ⟨rfl, hb⟩
  have hB3 := kcall hB2 hb
  replace r := r.bel hb
  clear hb hB2 r_l r_0 r_1 r_2
  have r_l := r.lt
  have r_0 := r.cell (v := .int .i64 b) 0 rfl
  have r_1 := r.cell (v := .bool s) 1 rfl
  have r_2 := r.cell (v := .bool d) 2 rfl
  go_wp2_with fail
  refine (KU.out _).mono ?_
  rintro e w4 ⟨rfl, hb⟩
  have hB4 := kcall hB3 hb
  replace r := r.bel hb
  clear hb hB3 r_l r_0 r_1 r_2
  have r_l := r.lt
  have r_0 := r.cell (v := .int .i64 b) 0 rfl
  have r_1 := r.cell (v := .bool s) 1 rfl
  have r_2 := r.cell (v := .bool d) 2 rfl
  go_wp2_with fail
  refine (KO.out _).mono ?_
  rintro e w5 ⟨rfl, hb⟩
  have hB5 := kcall hB4 hb
  replace r := r.bel hb
  clear hb hB4 r_l r_0 r_1 r_2
  have r_l := r.lt
  have r_0 := r.cell (v := .int .i64 b) 0 rfl
  have r_1 := r.cell (v := .bool s) 1 rfl
  have r_2 := r.cell (v := .bool d) 2 rfl
  go_wp2_with fail
  refine (KA.out _).mono ?_
  rintro e w6 ⟨rfl, hb⟩
  have hB6 := kcall hB5 hb
  replace r := r.bel hb
  clear hb hB5 r_l r_0 r_1 r_2
  have r_l := r.lt
  have r_0 := r.cell (v := .int .i64 b) 0 rfl
  have r_1 := r.cell (v := .bool s) 1 rfl
  have r_2 := r.cell (v := .bool d) 2 rfl
  go_wp2
  go_ret
  first | exact ⟨rfl, hB6⟩ | exact ⟨ret_bool (by simp; omega), hB6⟩
set_option maxRecDepth 100000 in
set_option maxHeartbeats 4000000 in
theorem at_in (b : Int) (s d : Bool) (n t : Int) (w : World) (ho : okR b s d = true) (hn : 0 ≤ n ∧ n < 1073741823) (ht : 0 ≤ t ∧ t < 1099511627776) (he : (atR b s d t).2 = 0) (h3 : st b (msR s) n ≤ t) (h4 : t < st b (msR s) (n + 1)) (h5 : ((atR b s d t).1 == n) = true) :
    Calls Try.prog 7 #[.agg #[.int .i64 b, .bool s, .bool d], .int .i64 n, .int .i64 t] w fun e w' => e = .returned (.bool true) ∧ Below w.heap.size w w' := by
  have hB0 := Below.refl w.heap.size w
  have K9 := hide sane_any
  have K15 := hide (fun w => refCheck_any b s d w)
  rw [chkR_ok ho] at K15
  have hlt := st_lt (n := n) (bm_of ho)
  have KS := hide (fun w => Start_any b s d n w)
  have KU := hide (fun w => Start_any b s d (n + 1) w)
  have KO := hide (fun w => At_any b s d (st b (msR s) n) w)
  have KA := hide (fun w => At_any b s d t w)
  rw [startR_ok ho (by omega)] at KS
  rw [startR_ok ho (by omega)] at KU
  rw [atR_own ho (by omega)] at KO
  rw [he] at KA
  obtain ⟨n1, n2⟩ := hn
  obtain ⟨t1, t2⟩ := ht
  generalize st b (msR s) n = F at *
  generalize st b (msR s) (n + 1) = U at *
  generalize (atR b s d t).1 = k at *
  clear he ho
  go_enter Try.func7, Try.ntmps7
  go_wp2_with fail
  refine (K9.out _).mono ?_
  rintro e w1 ⟨rfl, hb⟩
  have hB1 := kcall (kalloc hB0 _) hb
  have r := (Blk.new _ #[.int .i64 b, .bool s, .bool d] 23).bel hb
  clear hb hB0 
  have r_l := r.lt
  have r_0 := r.cell (v := .int .i64 b) 0 rfl
  have r_1 := r.cell (v := .bool s) 1 rfl
  have r_2 := r.cell (v := .bool d) 2 rfl
  go_wp2_with fail
  refine (K15.out _).mono ?_
  rintro e w2 ⟨rfl, hb⟩
  have hB2 := kcall hB1 hb
  replace r := r.bel hb
  clear hb hB1 r_l r_0 r_1 r_2
  have r_l := r.lt
  have r_0 := r.cell (v := .int .i64 b) 0 rfl
  have r_1 := r.cell (v := .bool s) 1 rfl
  have r_2 := r.cell (v := .bool d) 2 rfl
  go_wp2_with fail
  refine (KS.out _).mono ?_
  rintro e w3 ⟨rfl, hb⟩
  have hB3 := kcall hB2 hb
  replace r := r.bel hb
  clear hb hB2 r_l r_0 r_1 r_2
  have r_l := r.lt
  have r_0 := r.cell (v := .int .i64 b) 0 rfl
  have r_1 := r.cell (v := .bool s) 1 rfl
  have r_2 := r.cell (v := .bool d) 2 rfl
  go_wp2_with fail
  refine (KU.out _).mono ?_
  rintro e w4 ⟨rfl, hb⟩
  have hB4 := kcall hB3 hb
  replace r := r.bel hb
  clear hb hB3 r_l r_0 r_1 r_2
  have r_l := r.lt
  have r_0 := r.cell (v := .int .i64 b) 0 rfl
  have r_1 := r.cell (v := .bool s) 1 rfl
  have r_2 := r.cell (v := .bool d) 2 rfl
  go_wp2_with fail
  refine (KO.out _).mono ?_
  rintro e w5 ⟨rfl, hb⟩
  have hB5 := kcall hB4 hb
  replace r := r.bel hb
  clear hb hB4 r_l r_0 r_1 r_2
  have r_l := r.lt
  have r_0 := r.cell (v := .int .i64 b) 0 rfl
  have r_1 := r.cell (v := .bool s) 1 rfl
  have r_2 := r.cell (v := .bool d) 2 rfl
  go_wp2_with fail
  refine (KA.out _).mono ?_
  rintro e w6 ⟨rfl, hb⟩
  have hB6 := kcall hB5 hb
  replace r := r.bel hb
  clear hb hB5 r_l r_0 r_1 r_2
  have r_l := r.lt
  have r_0 := r.cell (v := .int .i64 b) 0 rfl
  have r_1 := r.cell (v := .bool s) 1 rfl
  have r_2 := r.cell (v := .bool d) 2 rfl
  go_wp2
  go_ret
  first | exact ⟨rfl, hB6⟩ | exact ⟨ret_bool (by simp; omega), hB6⟩
set_option maxRecDepth 100000 in
set_option maxHeartbeats 4000000 in
theorem at_hi1 (b : Int) (s d : Bool) (n t : Int) (w : World) (ho : okR b s d = true) (hn : 0 ≤ n ∧ n < 1073741823) (ht : 0 ≤ t ∧ t < 1099511627776) (he : (atR b s d t).2 = 0) (h3 : st b (msR s) n ≤ t) (h4 : st b (msR s) (n + 1) ≤ t) (h5 : ((atR b s d t).1 == n) = false) :
    Calls Try.prog 7 #[.agg #[.int .i64 b, .bool s, .bool d], .int .i64 n, .int .i64 t] w fun e w' => e = .returned (.bool true) ∧ Below w.heap.size w w' := by
  have hB0 := Below.refl w.heap.size w
  have K9 := hide sane_any
  have K15 := hide (fun w => refCheck_any b s d w)
  rw [chkR_ok ho] at K15
  have hlt := st_lt (n := n) (bm_of ho)
  have KS := hide (fun w => Start_any b s d n w)
  have KU := hide (fun w => Start_any b s d (n + 1) w)
  have KO := hide (fun w => At_any b s d (st b (msR s) n) w)
  have KA := hide (fun w => At_any b s d t w)
  rw [startR_ok ho (by omega)] at KS
  rw [startR_ok ho (by omega)] at KU
  rw [atR_own ho (by omega)] at KO
  rw [he] at KA
  obtain ⟨n1, n2⟩ := hn
  obtain ⟨t1, t2⟩ := ht
  generalize st b (msR s) n = F at *
  generalize st b (msR s) (n + 1) = U at *
  generalize (atR b s d t).1 = k at *
  clear he ho
  go_enter Try.func7, Try.ntmps7
  go_wp2_with fail
  refine (K9.out _).mono ?_
  rintro e w1 ⟨rfl, hb⟩
  have hB1 := kcall (kalloc hB0 _) hb
  have r := (Blk.new _ #[.int .i64 b, .bool s, .bool d] 23).bel hb
  clear hb hB0 
  have r_l := r.lt
  have r_0 := r.cell (v := .int .i64 b) 0 rfl
  have r_1 := r.cell (v := .bool s) 1 rfl
  have r_2 := r.cell (v := .bool d) 2 rfl
  go_wp2_with fail
  refine (K15.out _).mono ?_
  rintro e w2 ⟨rfl, hb⟩
  have hB2 := kcall hB1 hb
  replace r := r.bel hb
  clear hb hB1 r_l r_0 r_1 r_2
  have r_l := r.lt
  have r_0 := r.cell (v := .int .i64 b) 0 rfl
  have r_1 := r.cell (v := .bool s) 1 rfl
  have r_2 := r.cell (v := .bool d) 2 rfl
  go_wp2_with fail
  refine (KS.out _).mono ?_
  rintro e w3 ⟨rfl, hb⟩
  have hB3 := kcall hB2 hb
  replace r := r.bel hb
  clear hb hB2 r_l r_0 r_1 r_2
  have r_l := r.lt
  have r_0 := r.cell (v := .int .i64 b) 0 rfl
  have r_1 := r.cell (v := .bool s) 1 rfl
  have r_2 := r.cell (v := .bool d) 2 rfl
  go_wp2_with fail
  refine (KU.out _).mono ?_
  rintro e w4 ⟨rfl, hb⟩
  have hB4 := kcall hB3 hb
  replace r := r.bel hb
  clear hb hB3 r_l r_0 r_1 r_2
  have r_l := r.lt
  have r_0 := r.cell (v := .int .i64 b) 0 rfl
  have r_1 := r.cell (v := .bool s) 1 rfl
  have r_2 := r.cell (v := .bool d) 2 rfl
  go_wp2_with fail
  refine (KO.out _).mono ?_
  rintro e w5 ⟨rfl, hb⟩
  have hB5 := kcall hB4 hb
  replace r := r.bel hb
  clear hb hB4 r_l r_0 r_1 r_2
  have r_l := r.lt
  have r_0 := r.cell (v := .int .i64 b) 0 rfl
  have r_1 := r.cell (v := .bool s) 1 rfl
  have r_2 := r.cell (v := .bool d) 2 rfl
  go_wp2_with fail
  refine (KA.out _).mono ?_
  rintro e w6 ⟨rfl, hb⟩
  have hB6 := kcall hB5 hb
  replace r := r.bel hb
  clear hb hB5 r_l r_0 r_1 r_2
  have r_l := r.lt
  have r_0 := r.cell (v := .int .i64 b) 0 rfl
  have r_1 := r.cell (v := .bool s) 1 rfl
  have r_2 := r.cell (v := .bool d) 2 rfl
  go_wp2
  go_ret
  first | exact ⟨rfl, hB6⟩ | exact ⟨ret_bool (by simp; omega), hB6⟩
theorem framesAt_law (b : Int) (s d : Bool) (n t : Int) (w : World) :
    Calls Try.prog 7 #[.agg #[.int .i64 b, .bool s, .bool d], .int .i64 n, .int .i64 t] w fun e w' => e = .returned (.bool true) ∧ Below w.heap.size w w' := by
  cases ho : okR b s d
  · exact at_bad b s d n t w ho
  by_cases h0 : n < 0
  · exact at_r0 b s d n t w ho h0
  by_cases h1 : n < 1073741823
  case neg => exact at_r1 b s d n t w ho h0 (by omega)
  by_cases h2 : t < 0
  · exact at_r2 b s d n t w ho h0 h1 h2
  by_cases h3 : t < 1099511627776
  case neg => exact at_r3 b s d n t w ho h0 h1 h2 (by omega)
  have hn : 0 ≤ n ∧ n < 1073741823 := by omega
  have ht : 0 ≤ t ∧ t < 1099511627776 := by omega
  rcases atR_ways ho hn ht with ⟨e, h⟩ | ⟨e, ⟨a, c⟩ | ⟨a, c, f⟩ | ⟨a, c, f⟩⟩
  · exact at_out b s d n t w ho hn ht e h
  · exact at_lo1 b s d n t w ho hn ht e a c
  · exact at_in b s d n t w ho hn ht e a c (by simp [f])
  · exact at_hi1 b s d n t w ho hn ht e a c f
end Go.Proofs.Ytbifppncjplebaa

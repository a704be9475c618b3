/-
  FramesNext: its walk: true, whatever the input.
-/
import Derived.Test.YtbifppncjplebaaFPure2
import Derived.Test.YtbifppncjplebaaBlk
namespace Go.Proofs.Ytbifppncjplebaa
open Go.RowKit Go.Mine

structure NW (w w4 w5 W : World) (b : Int) (s d : Bool) (x y : Lb) : Prop where
  r : Blk W w.heap.size 23 #[.int .i64 b, .bool s, .bool d]
  a : Blk W w4.heap.size 25 #[.int .i64 x.h, .int .i64 x.m, .int .i64 x.s, .int .i64 x.f]
  y : Blk W w5.heap.size 25 #[.int .i64 y.h, .int .i64 y.m, .int .i64 y.s, .int .i64 y.f]
  l4 : w.heap.size < w4.heap.size
  l5 : w4.heap.size < w5.heap.size
  bel : Below w.heap.size w W
section
variable {w w4 w5 W : World} {b : Int} {s d : Bool} {x y : Lb}
theorem NW.pf (h : NW w w4 w5 W b s d x y) (v : Int) : NW w w4 w5 (W.setCell ⟨w4.heap.size, 3, none⟩ (.int .i64 v)) b s d ⟨x.h, x.m, x.s, v⟩ y :=
  ⟨h.r.far _ _ (by have := h.l4; dsimp only; omega), h.a.set 3 _ rfl, h.y.far _ _ (by have := h.l5; dsimp only; omega), h.l4, h.l5, h.bel.setCell (by have := h.l4; dsimp only; omega) _⟩
theorem NW.ps (h : NW w w4 w5 W b s d x y) (v : Int) : NW w w4 w5 (W.setCell ⟨w4.heap.size, 2, none⟩ (.int .i64 v)) b s d ⟨x.h, x.m, v, x.f⟩ y :=
  ⟨h.r.far _ _ (by have := h.l4; dsimp only; omega), h.a.set 2 _ rfl, h.y.far _ _ (by have := h.l5; dsimp only; omega), h.l4, h.l5, h.bel.setCell (by have := h.l4; dsimp only; omega) _⟩
theorem NW.pm (h : NW w w4 w5 W b s d x y) (v : Int) : NW w w4 w5 (W.setCell ⟨w4.heap.size, 1, none⟩ (.int .i64 v)) b s d ⟨x.h, v, x.s, x.f⟩ y :=
  ⟨h.r.far _ _ (by have := h.l4; dsimp only; omega), h.a.set 1 _ rfl, h.y.far _ _ (by have := h.l5; dsimp only; omega), h.l4, h.l5, h.bel.setCell (by have := h.l4; dsimp only; omega) _⟩
theorem NW.ph (h : NW w w4 w5 W b s d x y) (v : Int) : NW w w4 w5 (W.setCell ⟨w4.heap.size, 0, none⟩ (.int .i64 v)) b s d ⟨v, x.m, x.s, x.f⟩ y :=
  ⟨h.r.far _ _ (by have := h.l4; dsimp only; omega), h.a.set 0 _ rfl, h.y.far _ _ (by have := h.l5; dsimp only; omega), h.l4, h.l5, h.bel.setCell (by have := h.l4; dsimp only; omega) _⟩
end
set_option maxRecDepth 100000 in
set_option maxHeartbeats 4000000 in
theorem next_bad (b : Int) (s d : Bool) (n : Int) (w : World) (ho : okR b s d = false) :
    Calls Try.prog 6 #[.agg #[.int .i64 b, .bool s, .bool d], .int .i64 n] w fun e w' => e = .returned (.bool true) ∧ Below w.heap.size w w' := by
  have hB0 := Below.refl w.heap.size w
  have K9 := hide sane_any
  have K15 := hide (fun w => refCheck_any b s d w)
  rw [chkR_bad ho] at K15
  clear ho
  go_enter Try.func6, Try.ntmps6
  go_wp2_with fail
  refine (K9.out _).mono ?_
  rintro e w1 ⟨rfl, hb⟩
  have hB1 := kcall (kalloc hB0 _) hb
  have r := (Blk.new _ #[.int .i64 b, .bool s, .bool d] 23).bel hb
  clear hb hB0 
  have r_l := r.lt
  have r_0 := r.cell (v := .int .i64 b) 0 rfl
  have r_1 := r.cell (v := .bool s) 1 rfl
  have r_2 := r.cell (v := .bool d) 2 rfl
  go_wp2_with fail
  refine (K15.out _).mono ?_
  rintro e w2 ⟨rfl, hb⟩
  have hB2 := kcall hB1 hb
  replace r := r.bel hb
  clear hb hB1 r_l r_0 r_1 r_2
  have r_l := r.lt
  have r_0 := r.cell (v := .int .i64 b) 0 rfl
  have r_1 := r.cell (v := .bool s) 1 rfl
  have r_2 := r.cell (v := .bool d) 2 rfl
  go_wp2
  go_ret
  exact ⟨rfl, hB2⟩
set_option maxRecDepth 100000 in
set_option maxHeartbeats 4000000 in
theorem next_lo (b : Int) (s d : Bool) (n : Int) (w : World) (ho : okR b s d = true) (hr : n < 0) :
    Calls Try.prog 6 #[.agg #[.int .i64 b, .bool s, .bool d], .int .i64 n] w fun e w' => e = .returned (.bool true) ∧ Below w.heap.size w w' := by
  have hB0 := Below.refl w.heap.size w
  have K9 := hide sane_any
  have K15 := hide (fun w => refCheck_any b s d w)
  rw [chkR_ok ho] at K15
  clear ho
  go_enter Try.func6, Try.ntmps6
  go_wp2_with fail
  refine (K9.out _).mono ?_
  rintro e w1 ⟨rfl, hb⟩
  have hB1 := kcall (kalloc hB0 _) hb
  have r := (Blk.new _ #[.int .i64 b, .bool s, .bool d] 23).bel hb
  clear hb hB0 
  have r_l := r.lt
  have r_0 := r.cell (v := .int .i64 b) 0 rfl
  have r_1 := r.cell (v := .bool s) 1 rfl
  have r_2 := r.cell (v := .bool d) 2 rfl
  go_wp2_with fail
  refine (K15.out _).mono ?_
  rintro e w2 ⟨rfl, hb⟩
  have hB2 := kcall hB1 hb
  replace r := r.bel hb
  clear hb hB1 r_l r_0 r_1 r_2
  have r_l := r.lt
  have r_0 := r.cell (v := .int .i64 b) 0 rfl
  have r_1 := r.cell (v := .bool s) 1 rfl
  have r_2 := r.cell (v := .bool d) 2 rfl
  go_wp2
  go_ret
  exact ⟨rfl, hB2⟩
set_option maxRecDepth 100000 in
set_option maxHeartbeats 4000000 in
theorem next_hi (b : Int) (s d : Bool) (n : Int) (w : World) (ho : okR b s d = true) (h0 : ¬ n < 0) (hr : 1073741823 ≤ n) :
    Calls Try.prog 6 #[.agg #[.int .i64 b, .bool s, .bool d], .int .i64 n] w fun e w' => e = .returned (.bool true) ∧ Below w.heap.size w w' := by
  have hB0 := Below.refl w.heap.size w
  have K9 := hide sane_any
  have K15 := hide (fun w => refCheck_any b s d w)
  rw [chkR_ok ho] at K15
  clear ho
  go_enter Try.func6, Try.ntmps6
  go_wp2_with fail
  refine (K9.out _).mono ?_
  rintro e w1 ⟨rfl, hb⟩
  have hB1 := kcall (kalloc hB0 _) hb
  have r := (Blk.new _ #[.int .i64 b, .bool s, .bool d] 23).bel hb
  clear hb hB0 
  have r_l := r.lt
  have r_0 := r.cell (v := .int .i64 b) 0 rfl
  have r_1 := r.cell (v := .bool s) 1 rfl
  have r_2 := r.cell (v := .bool d) 2 rfl
  go_wp2_with fail
  refine (K15.out _).mono ?_
  rintro e w2 ⟨rfl, hb⟩
  have hB2 := kcall hB1 hb
  replace r := r.bel hb
  clear hb hB1 r_l r_0 r_1 r_2
  have r_l := r.lt
  have r_0 := r.cell (v := .int .i64 b) 0 rfl
  have r_1 := r.cell (v := .bool s) 1 rfl
  have r_2 := r.cell (v := .bool d) 2 rfl
  go_wp2
  go_ret
  exact ⟨rfl, hB2⟩
set_option maxRecDepth 100000 in
set_option maxHeartbeats 4000000 in
theorem next_c1 (b : Int) (s d : Bool) (n ah am az af : Int) (w : World) (ho : okR b s d = true) (hn : 0 ≤ n ∧ n < 1073741823) (hx : labelI b (dropR b d) n = ⟨ah, am, az, af⟩) (hr : 0 ≤ ah ∧ ah < 1073741824 ∧ 0 ≤ am ∧ am < 60 ∧ 0 ≤ az ∧ az < 60 ∧ 0 ≤ af ∧ af < b) (h60 : (az == 60) = false) (c1 : (af + 1 == b) = false) (hy : labelI b (dropR b d) (n + 1) = ⟨ah, am, az, af + 1⟩) :
    Calls Try.prog 6 #[.agg #[.int .i64 b, .bool s, .bool d], .int .i64 n] w fun e w' => e = .returned (.bool true) ∧ Below w.heap.size w w' := by
  have hB0 := Below.refl w.heap.size w
  have K9 := hide sane_any
  have K15 := hide (fun w => refCheck_any b s d w)
  rw [chkR_ok ho] at K15
  have hbd := okR_pos ho
  have KZ := hide (fun w => Label_any b s d 0 w)
  have KA := hide (fun w => Label_any b s d n w)
  have KB := hide (fun w => Label_any b s d (n + 1) w)
  rw [labelR_ok ho (by omega), label_zero ho] at KZ
  rw [labelR_ok ho (by omega), hx] at KA
  rw [labelR_ok ho (by omega), hy] at KB
  unfold Lb.v at KZ KA KB
  dsimp only at KZ KA KB
  obtain ⟨n1, n2⟩ := hn
  obtain ⟨u1, u2, u3, u4, u5, u6, u7, u8⟩ := hr
  obtain ⟨b1, b2⟩ := hbd
  clear hx hy ho
  go_enter Try.func6, Try.ntmps6
  go_wp2_with fail
  refine (K9.out _).mono ?_
  rintro e w1 ⟨rfl, hb⟩
  have hB1 := kcall (kalloc hB0 _) hb
  have r := (Blk.new _ #[.int .i64 b, .bool s, .bool d] 23).bel hb
  clear hb hB0 
  have r_l := r.lt
  have r_0 := r.cell (v := .int .i64 b) 0 rfl
  have r_1 := r.cell (v := .bool s) 1 rfl
  have r_2 := r.cell (v := .bool d) 2 rfl
  go_wp2_with fail
  refine (K15.out _).mono ?_
  rintro e w2 ⟨rfl, hb⟩
  have hB2 := kcall hB1 hb
  replace r := r.bel hb
  clear hb hB1 r_l r_0 r_1 r_2
  have r_l := r.lt
  have r_0 := r.cell (v := .int .i64 b) 0 rfl
  have r_1 := r.cell (v := .bool s) 1 rfl
  have r_2 := r.cell (v := .bool d) 2 rfl
  go_wp2_with fail
  refine (KZ.out _).mono ?_
  rintro e w3 ⟨rfl, hb⟩
  have hB3 := kcall hB2 hb
  replace r := r.bel hb
  clear hb hB2 r_l r_0 r_1 r_2
  have r_l := r.lt
  have r_0 := r.cell (v := .int .i64 b) 0 rfl
  have r_1 := r.cell (v := .bool s) 1 rfl
  have r_2 := r.cell (v := .bool d) 2 rfl
  go_wp2_with fail
  refine (KA.out _).mono ?_
  rintro e w4 ⟨rfl, hb⟩
  have hB4 := kcall (kalloc hB3 _) hb
  replace r := (r.alloc _).bel hb
  have z := (Blk.new _ #[.int .i64 0, .int .i64 0, .int .i64 0, .int .i64 0] 25).bel hb
  clear hb hB3 r_l r_0 r_1 r_2
  have r_l := r.lt
  have r_0 := r.cell (v := .int .i64 b) 0 rfl
  have r_1 := r.cell (v := .bool s) 1 rfl
  have r_2 := r.cell (v := .bool d) 2 rfl
  have z_l := z.lt
  have z_0 := z.cell (v := .int .i64 0) 0 rfl
  have z_1 := z.cell (v := .int .i64 0) 1 rfl
  have z_2 := z.cell (v := .int .i64 0) 2 rfl
  have z_3 := z.cell (v := .int .i64 0) 3 rfl
  have hz := hB4.size
  have rl4 := r_l
  go_wp2_with fail
  refine (KB.out _).mono ?_
  rintro e w5 ⟨rfl, hb⟩
  have hB5 := kcall (kalloc hB4 _) hb
  replace r := (r.alloc _).bel hb
  replace z := (z.alloc _).bel hb
  have a := (Blk.new _ #[.int .i64 ah, .int .i64 am, .int .i64 az, .int .i64 af] 25).bel hb
  clear hb hB4 r_l r_0 r_1 r_2 z_l z_0 z_1 z_2 z_3
  have r_l := r.lt
  have r_0 := r.cell (v := .int .i64 b) 0 rfl
  have r_1 := r.cell (v := .bool s) 1 rfl
  have r_2 := r.cell (v := .bool d) 2 rfl
  have z_l := z.lt
  have z_0 := z.cell (v := .int .i64 0) 0 rfl
  have z_1 := z.cell (v := .int .i64 0) 1 rfl
  have z_2 := z.cell (v := .int .i64 0) 2 rfl
  have z_3 := z.cell (v := .int .i64 0) 3 rfl
  have a_l := a.lt
  have a_0 := a.cell (v := .int .i64 ah) 0 rfl
  have a_1 := a.cell (v := .int .i64 am) 1 rfl
  have a_2 := a.cell (v := .int .i64 az) 2 rfl
  have a_3 := a.cell (v := .int .i64 af) 3 rfl
  rename_i K6 h6 K7 h7
  replace h6 := hide h6
  go_wp2_with fail
  refine h6.out _ _ ?_
  clear h6 K6
  (refine wp_seq_k (fun K hK => ?_); replace hK := hide hK; go_wp2_with fail; refine hK.out _ _ ?_; clear hK K)
  refine at_world (fun W => NW w w4 w5 W b s d ⟨ah, am, az, af⟩ ⟨ah, am, az, af + 1⟩) ⟨r.alloc _, a.alloc _, Blk.new _ _ _, rl4, a_l, kalloc hB5 _⟩ ?_
  intro W hS
  clear r_l r_0 r_1 r_2 z_l z_0 z_1 z_2 z_3 a_l a_0 a_1 a_2 a_3 z r a K9 K15 KZ KA KB hB5
  (have hlt := hS.l4; have hlt' := hS.l5; have o_0 := hS.r.cell (v := .int .i64 b) 0 rfl; have o_1 := hS.r.cell (v := .bool s) 1 rfl; have o_2 := hS.r.cell (v := .bool d) 2 rfl; have q_0 := hS.a.cell (v := .int .i64 (ah)) 0 rfl; have g_0 := hS.a.thaw 0; have q_1 := hS.a.cell (v := .int .i64 (am)) 1 rfl; have g_1 := hS.a.thaw 1; have q_2 := hS.a.cell (v := .int .i64 (az)) 2 rfl; have g_2 := hS.a.thaw 2; have q_3 := hS.a.cell (v := .int .i64 (af)) 3 rfl; have g_3 := hS.a.thaw 3; have t_0 := hS.y.cell (v := .int .i64 (ah)) 0 rfl; have t_1 := hS.y.cell (v := .int .i64 (am)) 1 rfl; have t_2 := hS.y.cell (v := .int .i64 (az)) 2 rfl; have t_3 := hS.y.cell (v := .int .i64 (af + 1)) 3 rfl; replace hS := hide hS)
  (refine wp_seq_k (fun K hK => ?_); replace hK := hide hK; go_wp2_with fail; refine hK.out _ _ ?_; clear hK K)
  (refine wp_seq_k (fun K hK => ?_); replace hK := hide hK; go_wp2_with fail; refine hK.out _ _ ?_; clear hK K)
  refine at_world (fun W => NW w w4 w5 W b s d ⟨ah, am, az, af + 1⟩ ⟨ah, am, az, af + 1⟩) (hS.out.pf _) ?_
  intro W1 hS1
  clear hS
  (clear q_0 q_1 q_2 q_3 g_0 g_1 g_2 g_3 t_0 t_1 t_2 t_3 o_0 o_1 o_2 hlt hlt')
  have hS := hide hS1
  clear hS1
  (have hlt := hS.out.l4; have hlt' := hS.out.l5; have o_0 := hS.out.r.cell (v := .int .i64 b) 0 rfl; have o_1 := hS.out.r.cell (v := .bool s) 1 rfl; have o_2 := hS.out.r.cell (v := .bool d) 2 rfl; have q_0 := hS.out.a.cell (v := .int .i64 (ah)) 0 rfl; have g_0 := hS.out.a.thaw 0; have q_1 := hS.out.a.cell (v := .int .i64 (am)) 1 rfl; have g_1 := hS.out.a.thaw 1; have q_2 := hS.out.a.cell (v := .int .i64 (az)) 2 rfl; have g_2 := hS.out.a.thaw 2; have q_3 := hS.out.a.cell (v := .int .i64 (af + 1)) 3 rfl; have g_3 := hS.out.a.thaw 3; have t_0 := hS.out.y.cell (v := .int .i64 (ah)) 0 rfl; have t_1 := hS.out.y.cell (v := .int .i64 (am)) 1 rfl; have t_2 := hS.out.y.cell (v := .int .i64 (az)) 2 rfl; have t_3 := hS.out.y.cell (v := .int .i64 (af + 1)) 3 rfl)
  go_wp2
  go_ret
  exact ⟨rfl, hS.out.bel⟩
set_option maxRecDepth 100000 in
set_option maxHeartbeats 4000000 in
theorem next_c2 (b : Int) (s d : Bool) (n ah am az af : Int) (w : World) (ho : okR b s d = true) (hn : 0 ≤ n ∧ n < 1073741823) (hx : labelI b (dropR b d) n = ⟨ah, am, az, af⟩) (hr : 0 ≤ ah ∧ ah < 1073741824 ∧ 0 ≤ am ∧ am < 60 ∧ 0 ≤ az ∧ az < 60 ∧ 0 ≤ af ∧ af < b) (h60 : (az == 60) = false) (c1 : (af + 1 == b) = true) (c2 : (az + 1 == 60) = false) (hy : labelI b (dropR b d) (n + 1) = ⟨ah, am, az + 1, 0⟩) :
    Calls Try.prog 6 #[.agg #[.int .i64 b, .bool s, .bool d], .int .i64 n] w fun e w' => e = .returned (.bool true) ∧ Below w.heap.size w w' := by
  have hB0 := Below.refl w.heap.size w
  have K9 := hide sane_any
  have K15 := hide (fun w => refCheck_any b s d w)
  rw [chkR_ok ho] at K15
  have hbd := okR_pos ho
  have KZ := hide (fun w => Label_any b s d 0 w)
  have KA := hide (fun w => Label_any b s d n w)
  have KB := hide (fun w => Label_any b s d (n + 1) w)
  rw [labelR_ok ho (by omega), label_zero ho] at KZ
  rw [labelR_ok ho (by omega), hx] at KA
  rw [labelR_ok ho (by omega), hy] at KB
  unfold Lb.v at KZ KA KB
  dsimp only at KZ KA KB
  obtain ⟨n1, n2⟩ := hn
  obtain ⟨u1, u2, u3, u4, u5, u6, u7, u8⟩ := hr
  obtain ⟨b1, b2⟩ := hbd
  clear hx hy ho
  go_enter Try.func6, Try.ntmps6
  go_wp2_with fail
  refine (K9.out _).mono ?_
  rintro e w1 ⟨rfl, hb⟩
  have hB1 := kcall (kalloc hB0 _) hb
  have r := (Blk.new _ #[.int .i64 b, .bool s, .bool d] 23).bel hb
  clear hb hB0 
  have r_l := r.lt
  have r_0 := r.cell (v := .int .i64 b) 0 rfl
  have r_1 := r.cell (v := .bool s) 1 rfl
  have r_2 := r.cell (v := .bool d) 2 rfl
  go_wp2_with fail
  refine (K15.out _).mono ?_
  rintro e w2 ⟨rfl, hb⟩
  have hB2 := kcall hB1 hb
  replace r := r.bel hb
  clear hb hB1 r_l r_0 r_1 r_2
  have r_l := r.lt
  have r_0 := r.cell (v := .int .i64 b) 0 rfl
  have r_1 := r.cell (v := .bool s) 1 rfl
  have r_2 := r.cell (v := .bool d) 2 rfl
  go_wp2_with fail
  refine (KZ.out _).mono ?_
  rintro e w3 ⟨rfl, hb⟩
  have hB3 := kcall hB2 hb
  replace r := r.bel hb
  clear hb hB2 r_l r_0 r_1 r_2
  have r_l := r.lt
  have r_0 := r.cell (v := .int .i64 b) 0 rfl
  have r_1 := r.cell (v := .bool s) 1 rfl
  have r_2 := r.cell (v := .bool d) 2 rfl
  go_wp2_with fail
  refine (KA.out _).mono ?_
  rintro e w4 ⟨rfl, hb⟩
  have hB4 := kcall (kalloc hB3 _) hb
  replace r := (r.alloc _).bel hb
  have z := (Blk.new _ #[.int .i64 0, .int .i64 0, .int .i64 0, .int .i64 0] 25).bel hb
  clear hb hB3 r_l r_0 r_1 r_2
  have r_l := r.lt
  have r_0 := r.cell (v := .int .i64 b) 0 rfl
  have r_1 := r.cell (v := .bool s) 1 rfl
  have r_2 := r.cell (v := .bool d) 2 rfl
  have z_l := z.lt
  have z_0 := z.cell (v := .int .i64 0) 0 rfl
  have z_1 := z.cell (v := .int .i64 0) 1 rfl
  have z_2 := z.cell (v := .int .i64 0) 2 rfl
  have z_3 := z.cell (v := .int .i64 0) 3 rfl
  have hz := hB4.size
  have rl4 := r_l
  go_wp2_with fail
  refine (KB.out _).mono ?_
  rintro e w5 ⟨rfl, hb⟩
  have hB5 := kcall (kalloc hB4 _) hb
  replace r := (r.alloc _).bel hb
  replace z := (z.alloc _).bel hb
  have a := (Blk.new _ #[.int .i64 ah, .int .i64 am, .int .i64 az, .int .i64 af] 25).bel hb
  clear hb hB4 r_l r_0 r_1 r_2 z_l z_0 z_1 z_2 z_3
  have r_l := r.lt
  have r_0 := r.cell (v := .int .i64 b) 0 rfl
  have r_1 := r.cell (v := .bool s) 1 rfl
  have r_2 := r.cell (v := .bool d) 2 rfl
  have z_l := z.lt
  have z_0 := z.cell (v := .int .i64 0) 0 rfl
  have z_1 := z.cell (v := .int .i64 0) 1 rfl
  have z_2 := z.cell (v := .int .i64 0) 2 rfl
  have z_3 := z.cell (v := .int .i64 0) 3 rfl
  have a_l := a.lt
  have a_0 := a.cell (v := .int .i64 ah) 0 rfl
  have a_1 := a.cell (v := .int .i64 am) 1 rfl
  have a_2 := a.cell (v := .int .i64 az) 2 rfl
  have a_3 := a.cell (v := .int .i64 af) 3 rfl
  rename_i K6 h6 K7 h7
  replace h6 := hide h6
  go_wp2_with fail
  refine h6.out _ _ ?_
  clear h6 K6
  (refine wp_seq_k (fun K hK => ?_); replace hK := hide hK; go_wp2_with fail; refine hK.out _ _ ?_; clear hK K)
  refine at_world (fun W => NW w w4 w5 W b s d ⟨ah, am, az, af⟩ ⟨ah, am, az + 1, 0⟩) ⟨r.alloc _, a.alloc _, Blk.new _ _ _, rl4, a_l, kalloc hB5 _⟩ ?_
  intro W hS
  clear r_l r_0 r_1 r_2 z_l z_0 z_1 z_2 z_3 a_l a_0 a_1 a_2 a_3 z r a K9 K15 KZ KA KB hB5
  (have hlt := hS.l4; have hlt' := hS.l5; have o_0 := hS.r.cell (v := .int .i64 b) 0 rfl; have o_1 := hS.r.cell (v := .bool s) 1 rfl; have o_2 := hS.r.cell (v := .bool d) 2 rfl; have q_0 := hS.a.cell (v := .int .i64 (ah)) 0 rfl; have g_0 := hS.a.thaw 0; have q_1 := hS.a.cell (v := .int .i64 (am)) 1 rfl; have g_1 := hS.a.thaw 1; have q_2 := hS.a.cell (v := .int .i64 (az)) 2 rfl; have g_2 := hS.a.thaw 2; have q_3 := hS.a.cell (v := .int .i64 (af)) 3 rfl; have g_3 := hS.a.thaw 3; have t_0 := hS.y.cell (v := .int .i64 (ah)) 0 rfl; have t_1 := hS.y.cell (v := .int .i64 (am)) 1 rfl; have t_2 := hS.y.cell (v := .int .i64 (az + 1)) 2 rfl; have t_3 := hS.y.cell (v := .int .i64 (0)) 3 rfl; replace hS := hide hS)
  (refine wp_seq_k (fun K hK => ?_); replace hK := hide hK; go_wp2_with fail; refine hK.out _ _ ?_; clear hK K)
  (refine wp_seq_k (fun K hK => ?_); replace hK := hide hK; go_wp2_with fail; refine hK.out _ _ ?_; clear hK K)
  refine at_world (fun W => NW w w4 w5 W b s d ⟨ah, am, az + 1, 0⟩ ⟨ah, am, az + 1, 0⟩) (((hS.out.pf _).pf _).ps _) ?_
  intro W1 hS1
  clear hS
  (clear q_0 q_1 q_2 q_3 g_0 g_1 g_2 g_3 t_0 t_1 t_2 t_3 o_0 o_1 o_2 hlt hlt')
  have hS := hide hS1
  clear hS1
  (have hlt := hS.out.l4; have hlt' := hS.out.l5; have o_0 := hS.out.r.cell (v := .int .i64 b) 0 rfl; have o_1 := hS.out.r.cell (v := .bool s) 1 rfl; have o_2 := hS.out.r.cell (v := .bool d) 2 rfl; have q_0 := hS.out.a.cell (v := .int .i64 (ah)) 0 rfl; have g_0 := hS.out.a.thaw 0; have q_1 := hS.out.a.cell (v := .int .i64 (am)) 1 rfl; have g_1 := hS.out.a.thaw 1; have q_2 := hS.out.a.cell (v := .int .i64 (az + 1)) 2 rfl; have g_2 := hS.out.a.thaw 2; have q_3 := hS.out.a.cell (v := .int .i64 (0)) 3 rfl; have g_3 := hS.out.a.thaw 3; have t_0 := hS.out.y.cell (v := .int .i64 (ah)) 0 rfl; have t_1 := hS.out.y.cell (v := .int .i64 (am)) 1 rfl; have t_2 := hS.out.y.cell (v := .int .i64 (az + 1)) 2 rfl; have t_3 := hS.out.y.cell (v := .int .i64 (0)) 3 rfl)
  go_wp2
  go_ret
  exact ⟨rfl, hS.out.bel⟩
set_option maxRecDepth 100000 in
set_option maxHeartbeats 4000000 in
theorem next_c3 (b : Int) (s : Bool) (n ah am az af : Int) (w : World) (ho : okR b s false = true) (hn : 0 ≤ n ∧ n < 1073741823) (hx : labelI b (dropR b false) n = ⟨ah, am, az, af⟩) (hr : 0 ≤ ah ∧ ah < 1073741824 ∧ 0 ≤ am ∧ am < 60 ∧ 0 ≤ az ∧ az < 60 ∧ 0 ≤ af ∧ af < b) (h60 : (az == 60) = false) (c1 : (af + 1 == b) = true) (c2 : (az + 1 == 60) = true) (c3 : (am + 1 == 60) = false) (hy : labelI b (dropR b false) (n + 1) = ⟨ah, am + 1, 0, 0⟩) :
    Calls Try.prog 6 #[.agg #[.int .i64 b, .bool s, .bool false], .int .i64 n] w fun e w' => e = .returned (.bool true) ∧ Below w.heap.size w w' := by
  have hB0 := Below.refl w.heap.size w
  have K9 := hide sane_any
  have K15 := hide (fun w => refCheck_any b s false w)
  rw [chkR_ok ho] at K15
  have hbd := okR_pos ho
  have KZ := hide (fun w => Label_any b s false 0 w)
  have KA := hide (fun w => Label_any b s false n w)
  have KB := hide (fun w => Label_any b s false (n + 1) w)
  rw [labelR_ok ho (by omega), label_zero ho] at KZ
  rw [labelR_ok ho (by omega), hx] at KA
  rw [labelR_ok ho (by omega), hy] at KB
  unfold Lb.v at KZ KA KB
  dsimp only at KZ KA KB
  obtain ⟨n1, n2⟩ := hn
  obtain ⟨u1, u2, u3, u4, u5, u6, u7, u8⟩ := hr
  obtain ⟨b1, b2⟩ := hbd
  clear hx hy ho
  go_enter Try.func6, Try.ntmps6
  go_wp2_with fail
  refine (K9.out _).mono ?_
  rintro e w1 ⟨rfl, hb⟩
  have hB1 := kcall (kalloc hB0 _) hb
  have r := (Blk.new _ #[.int .i64 b, .bool s, .bool false] 23).bel hb
  clear hb hB0 
  have r_l := r.lt
  have r_0 := r.cell (v := .int .i64 b) 0 rfl
  have r_1 := r.cell (v := .bool s) 1 rfl
  have r_2 := r.cell (v := .bool false) 2 rfl
  go_wp2_with fail
  refine (K15.out _).mono ?_
  rintro e w2 ⟨rfl, hb⟩
  have hB2 := kcall hB1 hb
  replace r := r.bel hb
  clear hb hB1 r_l r_0 r_1 r_2
  have r_l := r.lt
  have r_0 := r.cell (v := .int .i64 b) 0 rfl
  have r_1 := r.cell (v := .bool s) 1 rfl
  have r_2 := r.cell (v := .bool false) 2 rfl
  go_wp2_with fail
  refine (KZ.out _).mono ?_
  rintro e w3 ⟨rfl, hb⟩
  have hB3 := kcall hB2 hb
  replace r := r.bel hb
  clear hb hB2 r_l r_0 r_1 r_2
  have r_l := r.lt
  have r_0 := r.cell (v := .int .i64 b) 0 rfl
  have r_1 := r.cell (v := .bool s) 1 rfl
  have r_2 := r.cell (v := .bool false) 2 rfl
  go_wp2_with fail
  refine (KA.out _).mono ?_
  rintro e w4 ⟨rfl, hb⟩
  have hB4 := kcall (kalloc hB3 _) hb
  replace r := (r.alloc _).bel hb
  have z := (Blk.new _ #[.int .i64 0, .int .i64 0, .int .i64 0, .int .i64 0] 25).bel hb
  clear hb hB3 r_l r_0 r_1 r_2
  have r_l := r.lt
  have r_0 := r.cell (v := .int .i64 b) 0 rfl
  have r_1 := r.cell (v := .bool s) 1 rfl
  have r_2 := r.cell (v := .bool false) 2 rfl
  have z_l := z.lt
  have z_0 := z.cell (v := .int .i64 0) 0 rfl
  have z_1 := z.cell (v := .int .i64 0) 1 rfl
  have z_2 := z.cell (v := .int .i64 0) 2 rfl
  have z_3 := z.cell (v := .int .i64 0) 3 rfl
  have hz := hB4.size
  have rl4 := r_l
  go_wp2_with fail
  refine (KB.out _).mono ?_
  rintro e w5 ⟨rfl, hb⟩
  have hB5 := kcall (kalloc hB4 _) hb
  replace r := (r.alloc _).bel hb
  replace z := (z.alloc _).bel hb
  have a := (Blk.new _ #[.int .i64 ah, .int .i64 am, .int .i64 az, .int .i64 af] 25).bel hb
  clear hb hB4 r_l r_0 r_1 r_2 z_l z_0 z_1 z_2 z_3
  have r_l := r.lt
  have r_0 := r.cell (v := .int .i64 b) 0 rfl
  have r_1 := r.cell (v := .bool s) 1 rfl
  have r_2 := r.cell (v := .bool false) 2 rfl
  have z_l := z.lt
  have z_0 := z.cell (v := .int .i64 0) 0 rfl
  have z_1 := z.cell (v := .int .i64 0) 1 rfl
  have z_2 := z.cell (v := .int .i64 0) 2 rfl
  have z_3 := z.cell (v := .int .i64 0) 3 rfl
  have a_l := a.lt
  have a_0 := a.cell (v := .int .i64 ah) 0 rfl
  have a_1 := a.cell (v := .int .i64 am) 1 rfl
  have a_2 := a.cell (v := .int .i64 az) 2 rfl
  have a_3 := a.cell (v := .int .i64 af) 3 rfl
  rename_i K6 h6 K7 h7
  replace h6 := hide h6
  go_wp2_with fail
  refine h6.out _ _ ?_
  clear h6 K6
  (refine wp_seq_k (fun K hK => ?_); replace hK := hide hK; go_wp2_with fail; refine hK.out _ _ ?_; clear hK K)
  refine at_world (fun W => NW w w4 w5 W b s false ⟨ah, am, az, af⟩ ⟨ah, am + 1, 0, 0⟩) ⟨r.alloc _, a.alloc _, Blk.new _ _ _, rl4, a_l, kalloc hB5 _⟩ ?_
  intro W hS
  clear r_l r_0 r_1 r_2 z_l z_0 z_1 z_2 z_3 a_l a_0 a_1 a_2 a_3 z r a K9 K15 KZ KA KB hB5
  (have hlt := hS.l4; have hlt' := hS.l5; have o_0 := hS.r.cell (v := .int .i64 b) 0 rfl; have o_1 := hS.r.cell (v := .bool s) 1 rfl; have o_2 := hS.r.cell (v := .bool false) 2 rfl; have q_0 := hS.a.cell (v := .int .i64 (ah)) 0 rfl; have g_0 := hS.a.thaw 0; have q_1 := hS.a.cell (v := .int .i64 (am)) 1 rfl; have g_1 := hS.a.thaw 1; have q_2 := hS.a.cell (v := .int .i64 (az)) 2 rfl; have g_2 := hS.a.thaw 2; have q_3 := hS.a.cell (v := .int .i64 (af)) 3 rfl; have g_3 := hS.a.thaw 3; have t_0 := hS.y.cell (v := .int .i64 (ah)) 0 rfl; have t_1 := hS.y.cell (v := .int .i64 (am + 1)) 1 rfl; have t_2 := hS.y.cell (v := .int .i64 (0)) 2 rfl; have t_3 := hS.y.cell (v := .int .i64 (0)) 3 rfl; replace hS := hide hS)
  (refine wp_seq_k (fun K hK => ?_); replace hK := hide hK; go_wp2_with fail; refine hK.out _ _ ?_; clear hK K)
  (refine wp_seq_k (fun K hK => ?_); replace hK := hide hK; go_wp2_with fail; refine hK.out _ _ ?_; clear hK K)
  refine at_world (fun W => NW w w4 w5 W b s false ⟨ah, am, az + 1, 0⟩ ⟨ah, am + 1, 0, 0⟩) (((hS.out.pf _).pf _).ps _) ?_
  intro W1 hS1
  clear hS
  (clear q_0 q_1 q_2 q_3 g_0 g_1 g_2 g_3 t_0 t_1 t_2 t_3 o_0 o_1 o_2 hlt hlt')
  have hS := hide hS1
  clear hS1
  (have hlt := hS.out.l4; have hlt' := hS.out.l5; have o_0 := hS.out.r.cell (v := .int .i64 b) 0 rfl; have o_1 := hS.out.r.cell (v := .bool s) 1 rfl; have o_2 := hS.out.r.cell (v := .bool false) 2 rfl; have q_0 := hS.out.a.cell (v := .int .i64 (ah)) 0 rfl; have g_0 := hS.out.a.thaw 0; have q_1 := hS.out.a.cell (v := .int .i64 (am)) 1 rfl; have g_1 := hS.out.a.thaw 1; have q_2 := hS.out.a.cell (v := .int .i64 (az + 1)) 2 rfl; have g_2 := hS.out.a.thaw 2; have q_3 := hS.out.a.cell (v := .int .i64 (0)) 3 rfl; have g_3 := hS.out.a.thaw 3; have t_0 := hS.out.y.cell (v := .int .i64 (ah)) 0 rfl; have t_1 := hS.out.y.cell (v := .int .i64 (am + 1)) 1 rfl; have t_2 := hS.out.y.cell (v := .int .i64 (0)) 2 rfl; have t_3 := hS.out.y.cell (v := .int .i64 (0)) 3 rfl)
  refine wp_seq_k (fun K1 hK1 => ?_)
  replace hK1 := hide hK1
  (refine wp_seq_k (fun K hK => ?_); replace hK := hide hK; go_wp2_with fail; refine hK.out _ _ ?_; clear hK K)
  refine wp_cond (t := true) (by simp [Act.eval, c2]) ?_
  simp only [if_true]
  (refine wp_seq_k (fun K hK => ?_); replace hK := hide hK; go_wp2_with fail; refine hK.out _ _ ?_; clear hK K)
  (refine wp_seq_k (fun K hK => ?_); replace hK := hide hK; go_wp2_with fail; refine hK.out _ _ ?_; clear hK K)
  refine at_world (fun W => NW w w4 w5 W b s false ⟨ah, am + 1, 0, 0⟩ ⟨ah, am + 1, 0, 0⟩) ((hS.out.ps _).pm _) ?_
  intro W2 hS1
  clear hS
  (clear q_0 q_1 q_2 q_3 g_0 g_1 g_2 g_3 t_0 t_1 t_2 t_3 o_0 o_1 o_2 hlt hlt')
  have hS := hide hS1
  clear hS1
  (have hlt := hS.out.l4; have hlt' := hS.out.l5; have o_0 := hS.out.r.cell (v := .int .i64 b) 0 rfl; have o_1 := hS.out.r.cell (v := .bool s) 1 rfl; have o_2 := hS.out.r.cell (v := .bool false) 2 rfl; have q_0 := hS.out.a.cell (v := .int .i64 (ah)) 0 rfl; have g_0 := hS.out.a.thaw 0; have q_1 := hS.out.a.cell (v := .int .i64 (am + 1)) 1 rfl; have g_1 := hS.out.a.thaw 1; have q_2 := hS.out.a.cell (v := .int .i64 (0)) 2 rfl; have g_2 := hS.out.a.thaw 2; have q_3 := hS.out.a.cell (v := .int .i64 (0)) 3 rfl; have g_3 := hS.out.a.thaw 3; have t_0 := hS.out.y.cell (v := .int .i64 (ah)) 0 rfl; have t_1 := hS.out.y.cell (v := .int .i64 (am + 1)) 1 rfl; have t_2 := hS.out.y.cell (v := .int .i64 (0)) 2 rfl; have t_3 := hS.out.y.cell (v := .int .i64 (0)) 3 rfl)
  go_wp2_with fail
  refine hK1.out _ _ ?_
  clear hK1 K1
  go_wp2
  go_ret
  exact ⟨rfl, hS.out.bel⟩
set_option maxRecDepth 100000 in
set_option maxHeartbeats 4000000 in
theorem next_c4 (b : Int) (s : Bool) (n ah am az af : Int) (w : World) (ho : okR b s true = true) (hn : 0 ≤ n ∧ n < 1073741823) (hx : labelI b (dropR b true) n = ⟨ah, am, az, af⟩) (hr : 0 ≤ ah ∧ ah < 1073741824 ∧ 0 ≤ am ∧ am < 60 ∧ 0 ≤ az ∧ az < 60 ∧ 0 ≤ af ∧ af < b) (h60 : (az == 60) = false) (c1 : (af + 1 == b) = true) (c2 : (az + 1 == 60) = true) (c3 : (am + 1 == 60) = false) (c4 : ((am + 1) % 10 != 0) = false) (hy : labelI b (dropR b true) (n + 1) = ⟨ah, am + 1, 0, 0⟩) :
    Calls Try.prog 6 #[.agg #[.int .i64 b, .bool s, .bool true], .int .i64 n] w fun e w' => e = .returned (.bool true) ∧ Below w.heap.size w w' := by
  have hB0 := Below.refl w.heap.size w
  have K9 := hide sane_any
  have K15 := hide (fun w => refCheck_any b s true w)
  rw [chkR_ok ho] at K15
  have hbd := okR_pos ho
  have KZ := hide (fun w => Label_any b s true 0 w)
  have KA := hide (fun w => Label_any b s true n w)
  have KB := hide (fun w => Label_any b s true (n + 1) w)
  rw [labelR_ok ho (by omega), label_zero ho] at KZ
  rw [labelR_ok ho (by omega), hx] at KA
  rw [labelR_ok ho (by omega), hy] at KB
  unfold Lb.v at KZ KA KB
  dsimp only at KZ KA KB
  obtain ⟨n1, n2⟩ := hn
  obtain ⟨u1, u2, u3, u4, u5, u6, u7, u8⟩ := hr
  obtain ⟨b1, b2⟩ := hbd
  clear hx hy ho
  go_enter Try.func6, Try.ntmps6
  go_wp2_with fail
  refine (K9.out _).mono ?_
  rintro e w1 ⟨rfl, hb⟩
  have hB1 := kcall (kalloc hB0 _) hb
  have r := (Blk.new _ #[.int .i64 b, .bool s, .bool true] 23).bel hb
  clear hb hB0 
  have r_l := r.lt
  have r_0 := r.cell (v := .int .i64 b) 0 rfl
  have r_1 := r.cell (v := .bool s) 1 rfl
  have r_2 := r.cell (v := .bool true) 2 rfl
  go_wp2_with fail
  refine (K15.out _).mono ?_
  rintro e w2 ⟨rfl, hb⟩
  have hB2 := kcall hB1 hb
  replace r := r.bel hb
  clear hb hB1 r_l r_0 r_1 r_2
  have r_l := r.lt
  have r_0 := r.cell (v := .int .i64 b) 0 rfl
  have r_1 := r.cell (v := .bool s) 1 rfl
  have r_2 := r.cell (v := .bool true) 2 rfl
  go_wp2_with fail
  refine (KZ.out _).mono ?_
  rintro e w3 ⟨rfl, hb⟩
  have hB3 := kcall hB2 hb
  replace r := r.bel hb
  clear hb hB2 r_l r_0 r_1 r_2
  have r_l := r.lt
  have r_0 := r.cell (v := .int .i64 b) 0 rfl
  have r_1 := r.cell (v := .bool s) 1 rfl
  have r_2 := r.cell (v := .bool true) 2 rfl
  go_wp2_with fail
  refine (KA.out _).mono ?_
  rintro e w4 ⟨rfl, hb⟩
  have hB4 := kcall (kalloc hB3 _) hb
  replace r := (r.alloc _).bel hb
  have z := (Blk.new _ #[.int .i64 0, .int .i64 0, .int .i64 0, .int .i64 0] 25).bel hb
  clear hb hB3 r_l r_0 r_1 r_2
  have r_l := r.lt
  have r_0 := r.cell (v := .int .i64 b) 0 rfl
  have r_1 := r.cell (v := .bool s) 1 rfl
  have r_2 := r.cell (v := .bool true) 2 rfl
  have z_l := z.lt
  have z_0 := z.cell (v := .int .i64 0) 0 rfl
  have z_1 := z.cell (v := .int .i64 0) 1 rfl
  have z_2 := z.cell (v := .int .i64 0) 2 rfl
  have z_3 := z.cell (v := .int .i64 0) 3 rfl
  have hz := hB4.size
  have rl4 := r_l
  go_wp2_with fail
  refine (KB.out _).mono ?_
  rintro e w5 ⟨rfl, hb⟩
  have hB5 := kcall (kalloc hB4 _) hb
  replace r := (r.alloc _).bel hb
  replace z := (z.alloc _).bel hb
  have a := (Blk.new _ #[.int .i64 ah, .int .i64 am, .int .i64 az, .int .i64 af] 25).bel hb
  clear hb hB4 r_l r_0 r_1 r_2 z_l z_0 z_1 z_2 z_3
  have r_l := r.lt
  have r_0 := r.cell (v := .int .i64 b) 0 rfl
  have r_1 := r.cell (v := .bool s) 1 rfl
  have r_2 := r.cell (v := .bool true) 2 rfl
  have z_l := z.lt
  have z_0 := z.cell (v := .int .i64 0) 0 rfl
  have z_1 := z.cell (v := .int .i64 0) 1 rfl
  have z_2 := z.cell (v := .int .i64 0) 2 rfl
  have z_3 := z.cell (v := .int .i64 0) 3 rfl
  have a_l := a.lt
  have a_0 := a.cell (v := .int .i64 ah) 0 rfl
  have a_1 := a.cell (v := .int .i64 am) 1 rfl
  have a_2 := a.cell (v := .int .i64 az) 2 rfl
  have a_3 := a.cell (v := .int .i64 af) 3 rfl
  rename_i K6 h6 K7 h7
  replace h6 := hide h6
  go_wp2_with fail
  refine h6.out _ _ ?_
  clear h6 K6
  (refine wp_seq_k (fun K hK => ?_); replace hK := hide hK; go_wp2_with fail; refine hK.out _ _ ?_; clear hK K)
  refine at_world (fun W => NW w w4 w5 W b s true ⟨ah, am, az, af⟩ ⟨ah, am + 1, 0, 0⟩) ⟨r.alloc _, a.alloc _, Blk.new _ _ _, rl4, a_l, kalloc hB5 _⟩ ?_
  intro W hS
  clear r_l r_0 r_1 r_2 z_l z_0 z_1 z_2 z_3 a_l a_0 a_1 a_2 a_3 z r a K9 K15 KZ KA KB hB5
  (have hlt := hS.l4; have hlt' := hS.l5; have o_0 := hS.r.cell (v := .int .i64 b) 0 rfl; have o_1 := hS.r.cell (v := .bool s) 1 rfl; have o_2 := hS.r.cell (v := .bool true) 2 rfl; have q_0 := hS.a.cell (v := .int .i64 (ah)) 0 rfl; have g_0 := hS.a.thaw 0; have q_1 := hS.a.cell (v := .int .i64 (am)) 1 rfl; have g_1 := hS.a.thaw 1; have q_2 := hS.a.cell (v := .int .i64 (az)) 2 rfl; have g_2 := hS.a.thaw 2; have q_3 := hS.a.cell (v := .int .i64 (af)) 3 rfl; have g_3 := hS.a.thaw 3; have t_0 := hS.y.cell (v := .int .i64 (ah)) 0 rfl; have t_1 := hS.y.cell (v := .int .i64 (am + 1)) 1 rfl; have t_2 := hS.y.cell (v := .int .i64 (0)) 2 rfl; have t_3 := hS.y.cell (v := .int .i64 (0)) 3 rfl; replace hS := hide hS)
  (refine wp_seq_k (fun K hK => ?_); replace hK := hide hK; go_wp2_with fail; refine hK.out _ _ ?_; clear hK K)
  (refine wp_seq_k (fun K hK => ?_); replace hK := hide hK; go_wp2_with fail; refine hK.out _ _ ?_; clear hK K)
  refine at_world (fun W => NW w w4 w5 W b s true ⟨ah, am, az + 1, 0⟩ ⟨ah, am + 1, 0, 0⟩) (((hS.out.pf _).pf _).ps _) ?_
  intro W1 hS1
  clear hS
  (clear q_0 q_1 q_2 q_3 g_0 g_1 g_2 g_3 t_0 t_1 t_2 t_3 o_0 o_1 o_2 hlt hlt')
  have hS := hide hS1
  clear hS1
  (have hlt := hS.out.l4; have hlt' := hS.out.l5; have o_0 := hS.out.r.cell (v := .int .i64 b) 0 rfl; have o_1 := hS.out.r.cell (v := .bool s) 1 rfl; have o_2 := hS.out.r.cell (v := .bool true) 2 rfl; have q_0 := hS.out.a.cell (v := .int .i64 (ah)) 0 rfl; have g_0 := hS.out.a.thaw 0; have q_1 := hS.out.a.cell (v := .int .i64 (am)) 1 rfl; have g_1 := hS.out.a.thaw 1; have q_2 := hS.out.a.cell (v := .int .i64 (az + 1)) 2 rfl; have g_2 := hS.out.a.thaw 2; have q_3 := hS.out.a.cell (v := .int .i64 (0)) 3 rfl; have g_3 := hS.out.a.thaw 3; have t_0 := hS.out.y.cell (v := .int .i64 (ah)) 0 rfl; have t_1 := hS.out.y.cell (v := .int .i64 (am + 1)) 1 rfl; have t_2 := hS.out.y.cell (v := .int .i64 (0)) 2 rfl; have t_3 := hS.out.y.cell (v := .int .i64 (0)) 3 rfl)
  refine wp_seq_k (fun K1 hK1 => ?_)
  replace hK1 := hide hK1
  (refine wp_seq_k (fun K hK => ?_); replace hK := hide hK; go_wp2_with fail; refine hK.out _ _ ?_; clear hK K)
  refine wp_cond (t := true) (by simp [Act.eval, c2]) ?_
  simp only [if_true]
  (refine wp_seq_k (fun K hK => ?_); replace hK := hide hK; go_wp2_with fail; refine hK.out _ _ ?_; clear hK K)
  (refine wp_seq_k (fun K hK => ?_); replace hK := hide hK; go_wp2_with fail; refine hK.out _ _ ?_; clear hK K)
  refine at_world (fun W => NW w w4 w5 W b s true ⟨ah, am + 1, 0, 0⟩ ⟨ah, am + 1, 0, 0⟩) ((hS.out.ps _).pm _) ?_
  intro W2 hS1
  clear hS
  (clear q_0 q_1 q_2 q_3 g_0 g_1 g_2 g_3 t_0 t_1 t_2 t_3 o_0 o_1 o_2 hlt hlt')
  have hS := hide hS1
  clear hS1
  (have hlt := hS.out.l4; have hlt' := hS.out.l5; have o_0 := hS.out.r.cell (v := .int .i64 b) 0 rfl; have o_1 := hS.out.r.cell (v := .bool s) 1 rfl; have o_2 := hS.out.r.cell (v := .bool true) 2 rfl; have q_0 := hS.out.a.cell (v := .int .i64 (ah)) 0 rfl; have g_0 := hS.out.a.thaw 0; have q_1 := hS.out.a.cell (v := .int .i64 (am + 1)) 1 rfl; have g_1 := hS.out.a.thaw 1; have q_2 := hS.out.a.cell (v := .int .i64 (0)) 2 rfl; have g_2 := hS.out.a.thaw 2; have q_3 := hS.out.a.cell (v := .int .i64 (0)) 3 rfl; have g_3 := hS.out.a.thaw 3; have t_0 := hS.out.y.cell (v := .int .i64 (ah)) 0 rfl; have t_1 := hS.out.y.cell (v := .int .i64 (am + 1)) 1 rfl; have t_2 := hS.out.y.cell (v := .int .i64 (0)) 2 rfl; have t_3 := hS.out.y.cell (v := .int .i64 (0)) 3 rfl)
  go_wp2_with fail
  refine hK1.out _ _ ?_
  clear hK1 K1
  go_wp2
  go_ret
  exact ⟨rfl, hS.out.bel⟩
set_option maxRecDepth 100000 in
set_option maxHeartbeats 4000000 in
theorem next_c5 (b : Int) (s : Bool) (n ah am az af : Int) (w : World) (ho : okR b s true = true) (hn : 0 ≤ n ∧ n < 1073741823) (hx : labelI b (dropR b true) n = ⟨ah, am, az, af⟩) (hr : 0 ≤ ah ∧ ah < 1073741824 ∧ 0 ≤ am ∧ am < 60 ∧ 0 ≤ az ∧ az < 60 ∧ 0 ≤ af ∧ af < b) (h60 : (az == 60) = false) (c1 : (af + 1 == b) = true) (c2 : (az + 1 == 60) = true) (c3 : (am + 1 == 60) = false) (c4 : ((am + 1) % 10 != 0) = true) (hy : labelI b (dropR b true) (n + 1) = ⟨ah, am + 1, 0, b / 15⟩) :
    Calls Try.prog 6 #[.agg #[.int .i64 b, .bool s, .bool true], .int .i64 n] w fun e w' => e = .returned (.bool true) ∧ Below w.heap.size w w' := by
  have hB0 := Below.refl w.heap.size w
  have K9 := hide sane_any
  have K15 := hide (fun w => refCheck_any b s true w)
  rw [chkR_ok ho] at K15
  have hbd := okR_pos ho
  have KZ := hide (fun w => Label_any b s true 0 w)
  have KA := hide (fun w => Label_any b s true n w)
  have KB := hide (fun w => Label_any b s true (n + 1) w)
  rw [labelR_ok ho (by omega), label_zero ho] at KZ
  rw [labelR_ok ho (by omega), hx] at KA
  rw [labelR_ok ho (by omega), hy] at KB
  unfold Lb.v at KZ KA KB
  dsimp only at KZ KA KB
  obtain ⟨n1, n2⟩ := hn
  obtain ⟨u1, u2, u3, u4, u5, u6, u7, u8⟩ := hr
  obtain ⟨b1, b2⟩ := hbd
  clear hx hy ho
  go_enter Try.func6, Try.ntmps6
  go_wp2_with fail
  refine (K9.out _).mono ?_
  rintro e w1 ⟨rfl, hb⟩
  have hB1 := kcall (kalloc hB0 _) hb
  have r := (Blk.new _ #[.int .i64 b, .bool s, .bool true] 23).bel hb
  clear hb hB0 
  have r_l := r.lt
  have r_0 := r.cell (v := .int .i64 b) 0 rfl
  have r_1 := r.cell (v := .bool s) 1 rfl
  have r_2 := r.cell (v := .bool true) 2 rfl
  go_wp2_with fail
  refine (K15.out _).mono ?_
  rintro e w2 ⟨rfl, hb⟩
  have hB2 := kcall hB1 hb
  replace r := r.bel hb
  clear hb hB1 r_l r_0 r_1 r_2
  have r_l := r.lt
  have r_0 := r.cell (v := .int .i64 b) 0 rfl
  have r_1 := r.cell (v := .bool s) 1 rfl
  have r_2 := r.cell (v := .bool true) 2 rfl
  go_wp2_with fail
  refine (KZ.out _).mono ?_
  rintro e w3 ⟨rfl, hb⟩
  have hB3 := kcall hB2 hb
  replace r := r.bel hb
  clear hb hB2 r_l r_0 r_1 r_2
  have r_l := r.lt
  have r_0 := r.cell (v := .int .i64 b) 0 rfl
  have r_1 := r.cell (v := .bool s) 1 rfl
  have r_2 := r.cell (v := .bool true) 2 rfl
  go_wp2_with fail
  refine (KA.out _).mono ?_
  rintro e w4 ⟨rfl, hb⟩
  have hB4 := kcall (kalloc hB3 _) hb
  replace r := (r.alloc _).bel hb
  have z := (Blk.new _ #[.int .i64 0, .int .i64 0, .int .i64 0, .int .i64 0] 25).bel hb
  clear hb hB3 r_l r_0 r_1 r_2
  have r_l := r.lt
  have r_0 := r.cell (v := .int .i64 b) 0 rfl
  have r_1 := r.cell (v := .bool s) 1 rfl
  have r_2 := r.cell (v := .bool true) 2 rfl
  have z_l := z.lt
  have z_0 := z.cell (v := .int .i64 0) 0 rfl
  have z_1 := z.cell (v := .int .i64 0) 1 rfl
  have z_2 := z.cell (v := .int .i64 0) 2 rfl
  have z_3 := z.cell (v := .int .i64 0) 3 rfl
  have hz := hB4.size
  have rl4 := r_l
  go_wp2_with fail
  refine (KB.out _).mono ?_
  rintro e w5 ⟨rfl, hb⟩
  have hB5 := kcall (kalloc hB4 _) hb
  replace r := (r.alloc _).bel hb
  replace z := (z.alloc _).bel hb
  have a := (Blk.new _ #[.int .i64 ah, .int .i64 am, .int .i64 az, .int .i64 af] 25).bel hb
  clear hb hB4 r_l r_0 r_1 r_2 z_l z_0 z_1 z_2 z_3
  have r_l := r.lt
  have r_0 := r.cell (v := .int .i64 b) 0 rfl
  have r_1 := r.cell (v := .bool s) 1 rfl
  have r_2 := r.cell (v := .bool true) 2 rfl
  have z_l := z.lt
  have z_0 := z.cell (v := .int .i64 0) 0 rfl
  have z_1 := z.cell (v := .int .i64 0) 1 rfl
  have z_2 := z.cell (v := .int .i64 0) 2 rfl
  have z_3 := z.cell (v := .int .i64 0) 3 rfl
  have a_l := a.lt
  have a_0 := a.cell (v := .int .i64 ah) 0 rfl
  have a_1 := a.cell (v := .int .i64 am) 1 rfl
  have a_2 := a.cell (v := .int .i64 az) 2 rfl
  have a_3 := a.cell (v := .int .i64 af) 3 rfl
  rename_i K6 h6 K7 h7
  replace h6 := hide h6
  go_wp2_with fail
  refine h6.out _ _ ?_
  clear h6 K6
  (refine wp_seq_k (fun K hK => ?_); replace hK := hide hK; go_wp2_with fail; refine hK.out _ _ ?_; clear hK K)
  refine at_world (fun W => NW w w4 w5 W b s true ⟨ah, am, az, af⟩ ⟨ah, am + 1, 0, b / 15⟩) ⟨r.alloc _, a.alloc _, Blk.new _ _ _, rl4, a_l, kalloc hB5 _⟩ ?_
  intro W hS
  clear r_l r_0 r_1 r_2 z_l z_0 z_1 z_2 z_3 a_l a_0 a_1 a_2 a_3 z r a K9 K15 KZ KA KB hB5
  (have hlt := hS.l4; have hlt' := hS.l5; have o_0 := hS.r.cell (v := .int .i64 b) 0 rfl; have o_1 := hS.r.cell (v := .bool s) 1 rfl; have o_2 := hS.r.cell (v := .bool true) 2 rfl; have q_0 := hS.a.cell (v := .int .i64 (ah)) 0 rfl; have g_0 := hS.a.thaw 0; have q_1 := hS.a.cell (v := .int .i64 (am)) 1 rfl; have g_1 := hS.a.thaw 1; have q_2 := hS.a.cell (v := .int .i64 (az)) 2 rfl; have g_2 := hS.a.thaw 2; have q_3 := hS.a.cell (v := .int .i64 (af)) 3 rfl; have g_3 := hS.a.thaw 3; have t_0 := hS.y.cell (v := .int .i64 (ah)) 0 rfl; have t_1 := hS.y.cell (v := .int .i64 (am + 1)) 1 rfl; have t_2 := hS.y.cell (v := .int .i64 (0)) 2 rfl; have t_3 := hS.y.cell (v := .int .i64 (b / 15)) 3 rfl; replace hS := hide hS)
  (refine wp_seq_k (fun K hK => ?_); replace hK := hide hK; go_wp2_with fail; refine hK.out _ _ ?_; clear hK K)
  (refine wp_seq_k (fun K hK => ?_); replace hK := hide hK; go_wp2_with fail; refine hK.out _ _ ?_; clear hK K)
  refine at_world (fun W => NW w w4 w5 W b s true ⟨ah, am, az + 1, 0⟩ ⟨ah, am + 1, 0, b / 15⟩) (((hS.out.pf _).pf _).ps _) ?_
  intro W1 hS1
  clear hS
  (clear q_0 q_1 q_2 q_3 g_0 g_1 g_2 g_3 t_0 t_1 t_2 t_3 o_0 o_1 o_2 hlt hlt')
  have hS := hide hS1
  clear hS1
  (have hlt := hS.out.l4; have hlt' := hS.out.l5; have o_0 := hS.out.r.cell (v := .int .i64 b) 0 rfl; have o_1 := hS.out.r.cell (v := .bool s) 1 rfl; have o_2 := hS.out.r.cell (v := .bool true) 2 rfl; have q_0 := hS.out.a.cell (v := .int .i64 (ah)) 0 rfl; have g_0 := hS.out.a.thaw 0; have q_1 := hS.out.a.cell (v := .int .i64 (am)) 1 rfl; have g_1 := hS.out.a.thaw 1; have q_2 := hS.out.a.cell (v := .int .i64 (az + 1)) 2 rfl; have g_2 := hS.out.a.thaw 2; have q_3 := hS.out.a.cell (v := .int .i64 (0)) 3 rfl; have g_3 := hS.out.a.thaw 3; have t_0 := hS.out.y.cell (v := .int .i64 (ah)) 0 rfl; have t_1 := hS.out.y.cell (v := .int .i64 (am + 1)) 1 rfl; have t_2 := hS.out.y.cell (v := .int .i64 (0)) 2 rfl; have t_3 := hS.out.y.cell (v := .int .i64 (b / 15)) 3 rfl)
  refine wp_seq_k (fun K1 hK1 => ?_)
  replace hK1 := hide hK1
  (refine wp_seq_k (fun K hK => ?_); replace hK := hide hK; go_wp2_with fail; refine hK.out _ _ ?_; clear hK K)
  refine wp_cond (t := true) (by simp [Act.eval, c2]) ?_
  simp only [if_true]
  (refine wp_seq_k (fun K hK => ?_); replace hK := hide hK; go_wp2_with fail; refine hK.out _ _ ?_; clear hK K)
  (refine wp_seq_k (fun K hK => ?_); replace hK := hide hK; go_wp2_with fail; refine hK.out _ _ ?_; clear hK K)
  refine at_world (fun W => NW w w4 w5 W b s true ⟨ah, am + 1, 0, 0⟩ ⟨ah, am + 1, 0, b / 15⟩) ((hS.out.ps _).pm _) ?_
  intro W2 hS1
  clear hS
  (clear q_0 q_1 q_2 q_3 g_0 g_1 g_2 g_3 t_0 t_1 t_2 t_3 o_0 o_1 o_2 hlt hlt')
  have hS := hide hS1
  clear hS1
  (have hlt := hS.out.l4; have hlt' := hS.out.l5; have o_0 := hS.out.r.cell (v := .int .i64 b) 0 rfl; have o_1 := hS.out.r.cell (v := .bool s) 1 rfl; have o_2 := hS.out.r.cell (v := .bool true) 2 rfl; have q_0 := hS.out.a.cell (v := .int .i64 (ah)) 0 rfl; have g_0 := hS.out.a.thaw 0; have q_1 := hS.out.a.cell (v := .int .i64 (am + 1)) 1 rfl; have g_1 := hS.out.a.thaw 1; have q_2 := hS.out.a.cell (v := .int .i64 (0)) 2 rfl; have g_2 := hS.out.a.thaw 2; have q_3 := hS.out.a.cell (v := .int .i64 (0)) 3 rfl; have g_3 := hS.out.a.thaw 3; have t_0 := hS.out.y.cell (v := .int .i64 (ah)) 0 rfl; have t_1 := hS.out.y.cell (v := .int .i64 (am + 1)) 1 rfl; have t_2 := hS.out.y.cell (v := .int .i64 (0)) 2 rfl; have t_3 := hS.out.y.cell (v := .int .i64 (b / 15)) 3 rfl)
  go_wp2_with fail
  refine hK1.out _ _ ?_
  clear hK1 K1
  refine at_world (fun W => NW w w4 w5 W b s true ⟨ah, am + 1, 0, b / 15⟩ ⟨ah, am + 1, 0, b / 15⟩) (hS.out.pf _) ?_
  intro W3 hS1
  clear hS
  (clear q_0 q_1 q_2 q_3 g_0 g_1 g_2 g_3 t_0 t_1 t_2 t_3 o_0 o_1 o_2 hlt hlt')
  have hS := hide hS1
  clear hS1
  (have hlt := hS.out.l4; have hlt' := hS.out.l5; have o_0 := hS.out.r.cell (v := .int .i64 b) 0 rfl; have o_1 := hS.out.r.cell (v := .bool s) 1 rfl; have o_2 := hS.out.r.cell (v := .bool true) 2 rfl; have q_0 := hS.out.a.cell (v := .int .i64 (ah)) 0 rfl; have g_0 := hS.out.a.thaw 0; have q_1 := hS.out.a.cell (v := .int .i64 (am + 1)) 1 rfl; have g_1 := hS.out.a.thaw 1; have q_2 := hS.out.a.cell (v := .int .i64 (0)) 2 rfl; have g_2 := hS.out.a.thaw 2; have q_3 := hS.out.a.cell (v := .int .i64 (b / 15)) 3 rfl; have g_3 := hS.out.a.thaw 3; have t_0 := hS.out.y.cell (v := .int .i64 (ah)) 0 rfl; have t_1 := hS.out.y.cell (v := .int .i64 (am + 1)) 1 rfl; have t_2 := hS.out.y.cell (v := .int .i64 (0)) 2 rfl; have t_3 := hS.out.y.cell (v := .int .i64 (b / 15)) 3 rfl)
  go_wp2
  go_ret
  exact ⟨rfl, hS.out.bel⟩
set_option maxRecDepth 100000 in
set_option maxHeartbeats 4000000 in
theorem next_c6f (b : Int) (s : Bool) (n ah am az af : Int) (w : World) (ho : okR b s false = true) (hn : 0 ≤ n ∧ n < 1073741823) (hx : labelI b (dropR b false) n = ⟨ah, am, az, af⟩) (hr : 0 ≤ ah ∧ ah < 1073741824 ∧ 0 ≤ am ∧ am < 60 ∧ 0 ≤ az ∧ az < 60 ∧ 0 ≤ af ∧ af < b) (h60 : (az == 60) = false) (c1 : (af + 1 == b) = true) (c2 : (az + 1 == 60) = true) (c3 : (am + 1 == 60) = true) (hy : labelI b (dropR b false) (n + 1) = ⟨ah + 1, 0, 0, 0⟩) :
    Calls Try.prog 6 #[.agg #[.int .i64 b, .bool s, .bool false], .int .i64 n] w fun e w' => e = .returned (.bool true) ∧ Below w.heap.size w w' := by
  have hB0 := Below.refl w.heap.size w
  have K9 := hide sane_any
  have K15 := hide (fun w => refCheck_any b s false w)
  rw [chkR_ok ho] at K15
  have hbd := okR_pos ho
  have KZ := hide (fun w => Label_any b s false 0 w)
  have KA := hide (fun w => Label_any b s false n w)
  have KB := hide (fun w => Label_any b s false (n + 1) w)
  rw [labelR_ok ho (by omega), label_zero ho] at KZ
  rw [labelR_ok ho (by omega), hx] at KA
  rw [labelR_ok ho (by omega), hy] at KB
  unfold Lb.v at KZ KA KB
  dsimp only at KZ KA KB
  obtain ⟨n1, n2⟩ := hn
  obtain ⟨u1, u2, u3, u4, u5, u6, u7, u8⟩ := hr
  obtain ⟨b1, b2⟩ := hbd
  clear hx hy ho
  go_enter Try.func6, Try.ntmps6
  go_wp2_with fail
  refine (K9.out _).mono ?_
  rintro e w1 ⟨rfl, hb⟩
  have hB1 := kcall (kalloc hB0 _) hb
  have r := (Blk.new _ #[.int .i64 b, .bool s, .bool false] 23).bel hb
  clear hb hB0 
  have r_l := r.lt
  have r_0 := r.cell (v := .int .i64 b) 0 rfl
  have r_1 := r.cell (v := .bool s) 1 rfl
  have r_2 := r.cell (v := .bool false) 2 rfl
  go_wp2_with fail
  refine (K15.out _).mono ?_
  rintro e w2 ⟨rfl, hb⟩
  have hB2 := kcall hB1 hb
  replace r := r.bel hb
  clear hb hB1 r_l r_0 r_1 r_2
  have r_l := r.lt
  have r_0 := r.cell (v := .int .i64 b) 0 rfl
  have r_1 := r.cell (v := .bool s) 1 rfl
  have r_2 := r.cell (v := .bool false) 2 rfl
  go_wp2_with fail
  refine (KZ.out _).mono ?_
  rintro e w3 ⟨rfl, hb⟩
  have hB3 := kcall hB2 hb
  replace r := r.bel hb
  clear hb hB2 r_l r_0 r_1 r_2
  have r_l := r.lt
  have r_0 := r.cell (v := .int .i64 b) 0 rfl
  have r_1 := r.cell (v := .bool s) 1 rfl
  have r_2 := r.cell (v := .bool false) 2 rfl
  go_wp2_with fail
  refine (KA.out _).mono ?_
  rintro e w4 ⟨rfl, hb⟩
  have hB4 := kcall (kalloc hB3 _) hb
  replace r := (r.alloc _).bel hb
  have z := (Blk.new _ #[.int .i64 0, .int .i64 0, .int .i64 0, .int .i64 0] 25).bel hb
  clear hb hB3 r_l r_0 r_1 r_2
  have r_l := r.lt
  have r_0 := r.cell (v := .int .i64 b) 0 rfl
  have r_1 := r.cell (v := .bool s) 1 rfl
  have r_2 := r.cell (v := .bool false) 2 rfl
  have z_l := z.lt
  have z_0 := z.cell (v := .int .i64 0) 0 rfl
  have z_1 := z.cell (v := .int .i64 0) 1 rfl
  have z_2 := z.cell (v := .int .i64 0) 2 rfl
  have z_3 := z.cell (v := .int .i64 0) 3 rfl
  have hz := hB4.size
  have rl4 := r_l
  go_wp2_with fail
  refine (KB.out _).mono ?_
  rintro e w5 ⟨rfl, hb⟩
  have hB5 := kcall (kalloc hB4 _) hb
  replace r := (r.alloc _).bel hb
  replace z := (z.alloc _).bel hb
  have a := (Blk.new _ #[.int .i64 ah, .int .i64 am, .int .i64 az, .int .i64 af] 25).bel hb
  clear hb hB4 r_l r_0 r_1 r_2 z_l z_0 z_1 z_2 z_3
  have r_l := r.lt
  have r_0 := r.cell (v := .int .i64 b) 0 rfl
  have r_1 := r.cell (v := .bool s) 1 rfl
  have r_2 := r.cell (v := .bool false) 2 rfl
  have z_l := z.lt
  have z_0 := z.cell (v := .int .i64 0) 0 rfl
  have z_1 := z.cell (v := .int .i64 0) 1 rfl
  have z_2 := z.cell (v := .int .i64 0) 2 rfl
  have z_3 := z.cell (v := .int .i64 0) 3 rfl
  have a_l := a.lt
  have a_0 := a.cell (v := .int .i64 ah) 0 rfl
  have a_1 := a.cell (v := .int .i64 am) 1 rfl
  have a_2 := a.cell (v := .int .i64 az) 2 rfl
  have a_3 := a.cell (v := .int .i64 af) 3 rfl
  rename_i K6 h6 K7 h7
  replace h6 := hide h6
  go_wp2_with fail
  refine h6.out _ _ ?_
  clear h6 K6
  (refine wp_seq_k (fun K hK => ?_); replace hK := hide hK; go_wp2_with fail; refine hK.out _ _ ?_; clear hK K)
  refine at_world (fun W => NW w w4 w5 W b s false ⟨ah, am, az, af⟩ ⟨ah + 1, 0, 0, 0⟩) ⟨r.alloc _, a.alloc _, Blk.new _ _ _, rl4, a_l, kalloc hB5 _⟩ ?_
  intro W hS
  clear r_l r_0 r_1 r_2 z_l z_0 z_1 z_2 z_3 a_l a_0 a_1 a_2 a_3 z r a K9 K15 KZ KA KB hB5
  (have hlt := hS.l4; have hlt' := hS.l5; have o_0 := hS.r.cell (v := .int .i64 b) 0 rfl; have o_1 := hS.r.cell (v := .bool s) 1 rfl; have o_2 := hS.r.cell (v := .bool false) 2 rfl; have q_0 := hS.a.cell (v := .int .i64 (ah)) 0 rfl; have g_0 := hS.a.thaw 0; have q_1 := hS.a.cell (v := .int .i64 (am)) 1 rfl; have g_1 := hS.a.thaw 1; have q_2 := hS.a.cell (v := .int .i64 (az)) 2 rfl; have g_2 := hS.a.thaw 2; have q_3 := hS.a.cell (v := .int .i64 (af)) 3 rfl; have g_3 := hS.a.thaw 3; have t_0 := hS.y.cell (v := .int .i64 (ah + 1)) 0 rfl; have t_1 := hS.y.cell (v := .int .i64 (0)) 1 rfl; have t_2 := hS.y.cell (v := .int .i64 (0)) 2 rfl; have t_3 := hS.y.cell (v := .int .i64 (0)) 3 rfl; replace hS := hide hS)
  (refine wp_seq_k (fun K hK => ?_); replace hK := hide hK; go_wp2_with fail; refine hK.out _ _ ?_; clear hK K)
  (refine wp_seq_k (fun K hK => ?_); replace hK := hide hK; go_wp2_with fail; refine hK.out _ _ ?_; clear hK K)
  refine at_world (fun W => NW w w4 w5 W b s false ⟨ah, am, az + 1, 0⟩ ⟨ah + 1, 0, 0, 0⟩) (((hS.out.pf _).pf _).ps _) ?_
  intro W1 hS1
  clear hS
  (clear q_0 q_1 q_2 q_3 g_0 g_1 g_2 g_3 t_0 t_1 t_2 t_3 o_0 o_1 o_2 hlt hlt')
  have hS := hide hS1
  clear hS1
  (have hlt := hS.out.l4; have hlt' := hS.out.l5; have o_0 := hS.out.r.cell (v := .int .i64 b) 0 rfl; have o_1 := hS.out.r.cell (v := .bool s) 1 rfl; have o_2 := hS.out.r.cell (v := .bool false) 2 rfl; have q_0 := hS.out.a.cell (v := .int .i64 (ah)) 0 rfl; have g_0 := hS.out.a.thaw 0; have q_1 := hS.out.a.cell (v := .int .i64 (am)) 1 rfl; have g_1 := hS.out.a.thaw 1; have q_2 := hS.out.a.cell (v := .int .i64 (az + 1)) 2 rfl; have g_2 := hS.out.a.thaw 2; have q_3 := hS.out.a.cell (v := .int .i64 (0)) 3 rfl; have g_3 := hS.out.a.thaw 3; have t_0 := hS.out.y.cell (v := .int .i64 (ah + 1)) 0 rfl; have t_1 := hS.out.y.cell (v := .int .i64 (0)) 1 rfl; have t_2 := hS.out.y.cell (v := .int .i64 (0)) 2 rfl; have t_3 := hS.out.y.cell (v := .int .i64 (0)) 3 rfl)
  refine wp_seq_k (fun K1 hK1 => ?_)
  replace hK1 := hide hK1
  (refine wp_seq_k (fun K hK => ?_); replace hK := hide hK; go_wp2_with fail; refine hK.out _ _ ?_; clear hK K)
  refine wp_cond (t := true) (by simp [Act.eval, c2]) ?_
  simp only [if_true]
  (refine wp_seq_k (fun K hK => ?_); replace hK := hide hK; go_wp2_with fail; refine hK.out _ _ ?_; clear hK K)
  (refine wp_seq_k (fun K hK => ?_); replace hK := hide hK; go_wp2_with fail; refine hK.out _ _ ?_; clear hK K)
  refine at_world (fun W => NW w w4 w5 W b s false ⟨ah, am + 1, 0, 0⟩ ⟨ah + 1, 0, 0, 0⟩) ((hS.out.ps _).pm _) ?_
  intro W2 hS1
  clear hS
  (clear q_0 q_1 q_2 q_3 g_0 g_1 g_2 g_3 t_0 t_1 t_2 t_3 o_0 o_1 o_2 hlt hlt')
  have hS := hide hS1
  clear hS1
  (have hlt := hS.out.l4; have hlt' := hS.out.l5; have o_0 := hS.out.r.cell (v := .int .i64 b) 0 rfl; have o_1 := hS.out.r.cell (v := .bool s) 1 rfl; have o_2 := hS.out.r.cell (v := .bool false) 2 rfl; have q_0 := hS.out.a.cell (v := .int .i64 (ah)) 0 rfl; have g_0 := hS.out.a.thaw 0; have q_1 := hS.out.a.cell (v := .int .i64 (am + 1)) 1 rfl; have g_1 := hS.out.a.thaw 1; have q_2 := hS.out.a.cell (v := .int .i64 (0)) 2 rfl; have g_2 := hS.out.a.thaw 2; have q_3 := hS.out.a.cell (v := .int .i64 (0)) 3 rfl; have g_3 := hS.out.a.thaw 3; have t_0 := hS.out.y.cell (v := .int .i64 (ah + 1)) 0 rfl; have t_1 := hS.out.y.cell (v := .int .i64 (0)) 1 rfl; have t_2 := hS.out.y.cell (v := .int .i64 (0)) 2 rfl; have t_3 := hS.out.y.cell (v := .int .i64 (0)) 3 rfl)
  go_wp2_with fail
  refine hK1.out _ _ ?_
  clear hK1 K1
  refine at_world (fun W => NW w w4 w5 W b s false ⟨ah + 1, 0, 0, 0⟩ ⟨ah + 1, 0, 0, 0⟩) ((hS.out.pm _).ph _) ?_
  intro W3 hS1
  clear hS
  (clear q_0 q_1 q_2 q_3 g_0 g_1 g_2 g_3 t_0 t_1 t_2 t_3 o_0 o_1 o_2 hlt hlt')
  have hS := hide hS1
  clear hS1
  (have hlt := hS.out.l4; have hlt' := hS.out.l5; have o_0 := hS.out.r.cell (v := .int .i64 b) 0 rfl; have o_1 := hS.out.r.cell (v := .bool s) 1 rfl; have o_2 := hS.out.r.cell (v := .bool false) 2 rfl; have q_0 := hS.out.a.cell (v := .int .i64 (ah + 1)) 0 rfl; have g_0 := hS.out.a.thaw 0; have q_1 := hS.out.a.cell (v := .int .i64 (0)) 1 rfl; have g_1 := hS.out.a.thaw 1; have q_2 := hS.out.a.cell (v := .int .i64 (0)) 2 rfl; have g_2 := hS.out.a.thaw 2; have q_3 := hS.out.a.cell (v := .int .i64 (0)) 3 rfl; have g_3 := hS.out.a.thaw 3; have t_0 := hS.out.y.cell (v := .int .i64 (ah + 1)) 0 rfl; have t_1 := hS.out.y.cell (v := .int .i64 (0)) 1 rfl; have t_2 := hS.out.y.cell (v := .int .i64 (0)) 2 rfl; have t_3 := hS.out.y.cell (v := .int .i64 (0)) 3 rfl)
  go_wp2
  go_ret
  exact ⟨rfl, hS.out.bel⟩
set_option maxRecDepth 100000 in
set_option maxHeartbeats 4000000 in
theorem next_c6t (b : Int) (s : Bool) (n ah am az af : Int) (w : World) (ho : okR b s true = true) (hn : 0 ≤ n ∧ n < 1073741823) (hx : labelI b (dropR b true) n = ⟨ah, am, az, af⟩) (hr : 0 ≤ ah ∧ ah < 1073741824 ∧ 0 ≤ am ∧ am < 60 ∧ 0 ≤ az ∧ az < 60 ∧ 0 ≤ af ∧ af < b) (h60 : (az == 60) = false) (c1 : (af + 1 == b) = true) (c2 : (az + 1 == 60) = true) (c3 : (am + 1 == 60) = true) (hy : labelI b (dropR b true) (n + 1) = ⟨ah + 1, 0, 0, 0⟩) :
    Calls Try.prog 6 #[.agg #[.int .i64 b, .bool s, .bool true], .int .i64 n] w fun e w' => e = .returned (.bool true) ∧ Below w.heap.size w w' := by
  have hB0 := Below.refl w.heap.size w
  have K9 := hide sane_any
  have K15 := hide (fun w => refCheck_any b s true w)
  rw [chkR_ok ho] at K15
  have hbd := okR_pos ho
  have KZ := hide (fun w => Label_any b s true 0 w)
  have KA := hide (fun w => Label_any b s true n w)
  have KB := hide (fun w => Label_any b s true (n + 1) w)
  rw [labelR_ok ho (by omega), label_zero ho] at KZ
  rw [labelR_ok ho (by omega), hx] at KA
  rw [labelR_ok ho (by omega), hy] at KB
  unfold Lb.v at KZ KA KB
  dsimp only at KZ KA KB
  obtain ⟨n1, n2⟩ := hn
  obtain ⟨u1, u2, u3, u4, u5, u6, u7, u8⟩ := hr
  obtain ⟨b1, b2⟩ := hbd
  clear hx hy ho
  go_enter Try.func6, Try.ntmps6
  go_wp2_with fail
  refine (K9.out _).mono ?_
  rintro e w1 ⟨rfl, hb⟩
  have hB1 := kcall (kalloc hB0 _) hb
  have r := (Blk.new _ #[.int .i64 b, .bool s, .bool true] 23).bel hb
  clear hb hB0 
  have r_l := r.lt
  have r_0 := r.cell (v := .int .i64 b) 0 rfl
  have r_1 := r.cell (v := .bool s) 1 rfl
  have r_2 := r.cell (v := .bool true) 2 rfl
  go_wp2_with fail
  refine (K15.out _).mono ?_
  rintro e w2 ⟨rfl, hb⟩
  have hB2 := kcall hB1 hb
  replace r := r.bel hb
  clear hb hB1 r_l r_0 r_1 r_2
  have r_l := r.lt
  have r_0 := r.cell (v := .int .i64 b) 0 rfl
  have r_1 := r.cell (v := .bool s) 1 rfl
  have r_2 := r.cell (v := .bool true) 2 rfl
  go_wp2_with fail
  refine (KZ.out _).mono ?_
  rintro e w3 ⟨rfl, hb⟩
  have hB3 := kcall hB2 hb
  replace r := r.bel hb
  clear hb hB2 r_l r_0 r_1 r_2
  have r_l := r.lt
  have r_0 := r.cell (v := .int .i64 b) 0 rfl
  have r_1 := r.cell (v := .bool s) 1 rfl
  have r_2 := r.cell (v := .bool true) 2 rfl
  go_wp2_with fail
  refine (KA.out _).mono ?_
  rintro e w4 ⟨rfl, hb⟩
  have hB4 := kcall (kalloc hB3 _) hb
  replace r := (r.alloc _).bel hb
  have z := (Blk.new _ #[.int .i64 0, .int .i64 0, .int .i64 0, .int .i64 0] 25).bel hb
  clear hb hB3 r_l r_0 r_1 r_2
  have r_l := r.lt
  have r_0 := r.cell (v := .int .i64 b) 0 rfl
  have r_1 := r.cell (v := .bool s) 1 rfl
  have r_2 := r.cell (v := .bool true) 2 rfl
  have z_l := z.lt
  have z_0 := z.cell (v := .int .i64 0) 0 rfl
  have z_1 := z.cell (v := .int .i64 0) 1 rfl
  have z_2 := z.cell (v := .int .i64 0) 2 rfl
  have z_3 := z.cell (v := .int .i64 0) 3 rfl
  have hz := hB4.size
  have rl4 := r_l
  go_wp2_with fail
  refine (KB.out _).mono ?_
  rintro e w5 ⟨rfl, hb⟩
  have hB5 := kcall (kalloc hB4 _) hb
  replace r := (r.alloc _).bel hb
  replace z := (z.alloc _).bel hb
  have a := (Blk.new _ #[.int .i64 ah, .int .i64 am, .int .i64 az, .int .i64 af] 25).bel hb
  clear hb hB4 r_l r_0 r_1 r_2 z_l z_0 z_1 z_2 z_3
  have r_l := r.lt
  have r_0 := r.cell (v := .int .i64 b) 0 rfl
  have r_1 := r.cell (v := .bool s) 1 rfl
  have r_2 := r.cell (v := .bool true) 2 rfl
  have z_l := z.lt
  have z_0 := z.cell (v := .int .i64 0) 0 rfl
  have z_1 := z.cell (v := .int .i64 0) 1 rfl
  have z_2 := z.cell (v := .int .i64 0) 2 rfl
  have z_3 := z.cell (v := .int .i64 0) 3 rfl
  have a_l := a.lt
  have a_0 := a.cell (v := .int .i64 ah) 0 rfl
  have a_1 := a.cell (v := .int .i64 am) 1 rfl
  have a_2 := a.cell (v := .int .i64 az) 2 rfl
  have a_3 := a.cell (v := .int .i64 af) 3 rfl
  rename_i K6 h6 K7 h7
  replace h6 := hide h6
  go_wp2_with fail
  refine h6.out _ _ ?_
  clear h6 K6
  (refine wp_seq_k (fun K hK => ?_); replace hK := hide hK; go_wp2_with fail; refine hK.out _ _ ?_; clear hK K)
  refine at_world (fun W => NW w w4 w5 W b s true ⟨ah, am, az, af⟩ ⟨ah + 1, 0, 0, 0⟩) ⟨r.alloc _, a.alloc _, Blk.new _ _ _, rl4, a_l, kalloc hB5 _⟩ ?_
  intro W hS
  clear r_l r_0 r_1 r_2 z_l z_0 z_1 z_2 z_3 a_l a_0 a_1 a_2 a_3 z r a K9 K15 KZ KA KB hB5
  (have hlt := hS.l4; have hlt' := hS.l5; have o_0 := hS.r.cell (v := .int .i64 b) 0 rfl; have o_1 := hS.r.cell (v := .bool s) 1 rfl; have o_2 := hS.r.cell (v := .bool true) 2 rfl; have q_0 := hS.a.cell (v := .int .i64 (ah)) 0 rfl; have g_0 := hS.a.thaw 0; have q_1 := hS.a.cell (v := .int .i64 (am)) 1 rfl; have g_1 := hS.a.thaw 1; have q_2 := hS.a.cell (v := .int .i64 (az)) 2 rfl; have g_2 := hS.a.thaw 2; have q_3 := hS.a.cell (v := .int .i64 (af)) 3 rfl; have g_3 := hS.a.thaw 3; have t_0 := hS.y.cell (v := .int .i64 (ah + 1)) 0 rfl; have t_1 := hS.y.cell (v := .int .i64 (0)) 1 rfl; have t_2 := hS.y.cell (v := .int .i64 (0)) 2 rfl; have t_3 := hS.y.cell (v := .int .i64 (0)) 3 rfl; replace hS := hide hS)
  (refine wp_seq_k (fun K hK => ?_); replace hK := hide hK; go_wp2_with fail; refine hK.out _ _ ?_; clear hK K)
  (refine wp_seq_k (fun K hK => ?_); replace hK := hide hK; go_wp2_with fail; refine hK.out _ _ ?_; clear hK K)
  refine at_world (fun W => NW w w4 w5 W b s true ⟨ah, am, az + 1, 0⟩ ⟨ah + 1, 0, 0, 0⟩) (((hS.out.pf _).pf _).ps _) ?_
  intro W1 hS1
  clear hS
  (clear q_0 q_1 q_2 q_3 g_0 g_1 g_2 g_3 t_0 t_1 t_2 t_3 o_0 o_1 o_2 hlt hlt')
  have hS := hide hS1
  clear hS1
  (have hlt := hS.out.l4; have hlt' := hS.out.l5; have o_0 := hS.out.r.cell (v := .int .i64 b) 0 rfl; have o_1 := hS.out.r.cell (v := .bool s) 1 rfl; have o_2 := hS.out.r.cell (v := .bool true) 2 rfl; have q_0 := hS.out.a.cell (v := .int .i64 (ah)) 0 rfl; have g_0 := hS.out.a.thaw 0; have q_1 := hS.out.a.cell (v := .int .i64 (am)) 1 rfl; have g_1 := hS.out.a.thaw 1; have q_2 := hS.out.a.cell (v := .int .i64 (az + 1)) 2 rfl; have g_2 := hS.out.a.thaw 2; have q_3 := hS.out.a.cell (v := .int .i64 (0)) 3 rfl; have g_3 := hS.out.a.thaw 3; have t_0 := hS.out.y.cell (v := .int .i64 (ah + 1)) 0 rfl; have t_1 := hS.out.y.cell (v := .int .i64 (0)) 1 rfl; have t_2 := hS.out.y.cell (v := .int .i64 (0)) 2 rfl; have t_3 := hS.out.y.cell (v := .int .i64 (0)) 3 rfl)
  refine wp_seq_k (fun K1 hK1 => ?_)
  replace hK1 := hide hK1
  (refine wp_seq_k (fun K hK => ?_); replace hK := hide hK; go_wp2_with fail; refine hK.out _ _ ?_; clear hK K)
  refine wp_cond (t := true) (by simp [Act.eval, c2]) ?_
  simp only [if_true]
  (refine wp_seq_k (fun K hK => ?_); replace hK := hide hK; go_wp2_with fail; refine hK.out _ _ ?_; clear hK K)
  (refine wp_seq_k (fun K hK => ?_); replace hK := hide hK; go_wp2_with fail; refine hK.out _ _ ?_; clear hK K)
  refine at_world (fun W => NW w w4 w5 W b s true ⟨ah, am + 1, 0, 0⟩ ⟨ah + 1, 0, 0, 0⟩) ((hS.out.ps _).pm _) ?_
  intro W2 hS1
  clear hS
  (clear q_0 q_1 q_2 q_3 g_0 g_1 g_2 g_3 t_0 t_1 t_2 t_3 o_0 o_1 o_2 hlt hlt')
  have hS := hide hS1
  clear hS1
  (have hlt := hS.out.l4; have hlt' := hS.out.l5; have o_0 := hS.out.r.cell (v := .int .i64 b) 0 rfl; have o_1 := hS.out.r.cell (v := .bool s) 1 rfl; have o_2 := hS.out.r.cell (v := .bool true) 2 rfl; have q_0 := hS.out.a.cell (v := .int .i64 (ah)) 0 rfl; have g_0 := hS.out.a.thaw 0; have q_1 := hS.out.a.cell (v := .int .i64 (am + 1)) 1 rfl; have g_1 := hS.out.a.thaw 1; have q_2 := hS.out.a.cell (v := .int .i64 (0)) 2 rfl; have g_2 := hS.out.a.thaw 2; have q_3 := hS.out.a.cell (v := .int .i64 (0)) 3 rfl; have g_3 := hS.out.a.thaw 3; have t_0 := hS.out.y.cell (v := .int .i64 (ah + 1)) 0 rfl; have t_1 := hS.out.y.cell (v := .int .i64 (0)) 1 rfl; have t_2 := hS.out.y.cell (v := .int .i64 (0)) 2 rfl; have t_3 := hS.out.y.cell (v := .int .i64 (0)) 3 rfl)
  go_wp2_with fail
  refine hK1.out _ _ ?_
  clear hK1 K1
  refine at_world (fun W => NW w w4 w5 W b s true ⟨ah + 1, 0, 0, 0⟩ ⟨ah + 1, 0, 0, 0⟩) ((hS.out.pm _).ph _) ?_
  intro W3 hS1
  clear hS
  (clear q_0 q_1 q_2 q_3 g_0 g_1 g_2 g_3 t_0 t_1 t_2 t_3 o_0 o_1 o_2 hlt hlt')
  have hS := hide hS1
  clear hS1
  (have hlt := hS.out.l4; have hlt' := hS.out.l5; have o_0 := hS.out.r.cell (v := .int .i64 b) 0 rfl; have o_1 := hS.out.r.cell (v := .bool s) 1 rfl; have o_2 := hS.out.r.cell (v := .bool true) 2 rfl; have q_0 := hS.out.a.cell (v := .int .i64 (ah + 1)) 0 rfl; have g_0 := hS.out.a.thaw 0; have q_1 := hS.out.a.cell (v := .int .i64 (0)) 1 rfl; have g_1 := hS.out.a.thaw 1; have q_2 := hS.out.a.cell (v := .int .i64 (0)) 2 rfl; have g_2 := hS.out.a.thaw 2; have q_3 := hS.out.a.cell (v := .int .i64 (0)) 3 rfl; have g_3 := hS.out.a.thaw 3; have t_0 := hS.out.y.cell (v := .int .i64 (ah + 1)) 0 rfl; have t_1 := hS.out.y.cell (v := .int .i64 (0)) 1 rfl; have t_2 := hS.out.y.cell (v := .int .i64 (0)) 2 rfl; have t_3 := hS.out.y.cell (v := .int .i64 (0)) 3 rfl)
  go_wp2
  go_ret
  exact ⟨rfl, hS.out.bel⟩
set_option maxRecDepth 100000 in
set_option maxHeartbeats 4000000 in
theorem next_c6 (b : Int) (s d : Bool) (n ah am az af : Int) (w : World) (ho : okR b s d = true) (hn : 0 ≤ n ∧ n < 1073741823) (hx : labelI b (dropR b d) n = ⟨ah, am, az, af⟩) (hr : 0 ≤ ah ∧ ah < 1073741824 ∧ 0 ≤ am ∧ am < 60 ∧ 0 ≤ az ∧ az < 60 ∧ 0 ≤ af ∧ af < b) (h60 : (az == 60) = false) (c1 : (af + 1 == b) = true) (c2 : (az + 1 == 60) = true) (c3 : (am + 1 == 60) = true) (hy : labelI b (dropR b d) (n + 1) = ⟨ah + 1, 0, 0, 0⟩) :
    Calls Try.prog 6 #[.agg #[.int .i64 b, .bool s, .bool d], .int .i64 n] w fun e w' => e = .returned (.bool true) ∧ Below w.heap.size w w' := by
  cases d
  · exact next_c6f b s n ah am az af w ho hn hx hr h60 c1 c2 c3 hy
  · exact next_c6t b s n ah am az af w ho hn hx hr h60 c1 c2 c3 hy
theorem framesNext_law (b : Int) (s d : Bool) (n : Int) (w : World) :
    Calls Try.prog 6 #[.agg #[.int .i64 b, .bool s, .bool d], .int .i64 n] w fun e w' => e = .returned (.bool true) ∧ Below w.heap.size w w' := by
  cases ho : okR b s d
  · exact next_bad b s d n w ho
  by_cases h0 : n < 0
  · exact next_lo b s d n w ho h0
  by_cases h1 : n < 1073741823
  case neg => exact next_hi b s d n w ho h0 (by omega)
  have hI := labelI_is (pair_of ho) (show 0 ≤ n by omega)
  have hH := isL_hour (pair_of ho) hI
  have hy := label_next ho (show 0 ≤ n by omega)
  obtain ⟨ah, am, az, af, hx⟩ : ∃ ah am az af, labelI b (dropR b d) n = ⟨ah, am, az, af⟩ := ⟨_, _, _, _, rfl⟩
  rw [hx] at hI hH hy
  obtain ⟨i1, i2, i3, i4, i5, i6, i7, _, _⟩ := hI
  dsimp only at i1 i2 i3 i4 i5 i6 i7 hH
  have hn : 0 ≤ n ∧ n < 1073741823 := by omega
  have hr : 0 ≤ ah ∧ ah < 1073741824 ∧ 0 ≤ am ∧ am < 60 ∧ 0 ≤ az ∧ az < 60 ∧ 0 ≤ af ∧ af < b := by omega
  have h60 : (az == 60) = false := by simp; omega
  unfold carryL at hy
  dsimp only at hy
  by_cases c1 : af + 1 = b
  case neg => exact next_c1 b s d n ah am az af w ho hn hx hr h60 (by simpa using c1) (by rw [hy, if_neg c1])
  rw [if_pos c1] at hy
  by_cases c2 : az + 1 = 60
  case neg => exact next_c2 b s d n ah am az af w ho hn hx hr h60 (by simpa using c1) (by simpa using c2) (by rw [hy, if_neg c2])
  rw [if_pos c2] at hy
  by_cases c3 : am + 1 = 60
  · exact next_c6 b s d n ah am az af w ho hn hx hr h60 (by simpa using c1) (by simpa using c2) (by simpa using c3) (by rw [hy, if_pos c3])
  rw [if_neg c3] at hy
  cases d
  · exact next_c3 b s n ah am az af w ho hn hx hr h60 (by simpa using c1) (by simpa using c2) (by simpa using c3) (by rw [hy]; simp)
  by_cases c4 : (am + 1) % 10 = 0
  · exact next_c4 b s n ah am az af w ho hn hx hr h60 (by simpa using c1) (by simpa using c2) (by simpa using c3) (by simpa using c4) (by rw [hy]; simp [c4])
  · exact next_c5 b s n ah am az af w ho hn hx hr h60 (by simpa using c1) (by simpa using c2) (by simpa using c3) (by simpa using c4) (by rw [hy]; simp [c4])
end Go.Proofs.Ytbifppncjplebaa

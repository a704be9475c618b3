/-
  FramesTenth: its walk: true, whatever the input.
-/
import Derived.Test.YtbifppncjplebaaFPure3
import Derived.Test.YtbifppncjplebaaBlk
namespace Go.Proofs.Ytbifppncjplebaa
open Go.RowKit Go.Mine

theorem min4 (a b c d : Int) (h1 : 0 ≤ a) (h2 : 0 ≤ b) (h3 : 0 ≤ c) (h4 : 0 ≤ d) : ∃ mn : Int, 0 ≤ mn ∧ ∀ w : World, (Builtin.min_ #[3, 3, 3, 3] 3 #[.int .i64 a, .int .i64 b, .int .i64 c, .int .i64 d]).run Try.prog w = .ok (.int .i64 mn) w := by
  refine ⟨if d < (if c < (if b < a then b else a) then c else (if b < a then b else a)) then d else (if c < (if b < a then b else a) then c else (if b < a then b else a)), ?_, fun w => ?_⟩
  · repeat' split
    all_goals omega
  · simp [Builtin.min_, Builtin.min2]

set_option maxRecDepth 100000 in
set_option maxHeartbeats 4000000 in
theorem ten_bad (b : Int) (s d : Bool) (k n : Int) (w : World) (hk : 0 ≤ k ∧ k < 65536) (ho : okR b s d = false) :
    Calls Try.prog 8 #[.agg #[.int .i64 b, .bool s, .bool d], .int .u16 k, .int .i64 n] w fun e w' => e = .returned (.bool true) ∧ Below w.heap.size w w' := by
  have hB0 := Below.refl w.heap.size w
  obtain ⟨k1, k2⟩ := hk
  have K9 := hide sane_any
  have K15 := hide (fun w => refCheck_any b s d w)
  rw [chkR_bad ho] at K15
  clear ho
  go_enter Try.func8, Try.ntmps8
  go_wp2_with fail
  refine (K9.out _).mono ?_
  rintro e w1 ⟨rfl, hb⟩
  have hB1 := kcall (kalloc hB0 _) hb
  have r := (Blk.new _ #[.int .i64 b, .bool s, .bool d] 23).bel hb
  clear hb hB0 
  have r_l := r.lt
  have r_0 := r.cell (v := .int .i64 b) 0 rfl
  have r_1 := r.cell (v := .bool s) 1 rfl
  have r_2 := r.cell (v := .bool d) 2 rfl
  go_wp2_with fail
  refine (K15.out _).mono ?_
  rintro e w2 ⟨rfl, hb⟩
  have hB2 := kcall hB1 hb
  replace r := r.bel hb
  clear hb hB1 r_l r_0 r_1 r_2
  have r_l := r.lt
  have r_0 := r.cell (v := .int .i64 b) 0 rfl
  have r_1 := r.cell (v := .bool s) 1 rfl
  have r_2 := r.cell (v := .bool d) 2 rfl
  go_wp2
  go_ret
  first | exact ⟨rfl, hB2⟩ | exact ⟨ret_bool (by simp; omega), hB2⟩
set_option maxRecDepth 100000 in
set_option maxHeartbeats 4000000 in
theorem ten_lo (b : Int) (s : Bool) (k n : Int) (w : World) (hk : 0 ≤ k ∧ k < 65536) (ho : okR b s false = true) (hr : n < 0) :
    Calls Try.prog 8 #[.agg #[.int .i64 b, .bool s, .bool false], .int .u16 k, .int .i64 n] w fun e w' => e = .returned (.bool true) ∧ Below w.heap.size w w' := by
  have hB0 := Below.refl w.heap.size w
  obtain ⟨k1, k2⟩ := hk
  have K9 := hide sane_any
  have K15 := hide (fun w => refCheck_any b s false w)
  rw [chkR_ok ho] at K15
  clear ho
  go_enter Try.func8, Try.ntmps8
  go_wp2_with fail
  refine (K9.out _).mono ?_
  rintro e w1 ⟨rfl, hb⟩
  have hB1 := kcall (kalloc hB0 _) hb
  have r := (Blk.new _ #[.int .i64 b, .bool s, .bool false] 23).bel hb
  clear hb hB0 
  have r_l := r.lt
  have r_0 := r.cell (v := .int .i64 b) 0 rfl
  have r_1 := r.cell (v := .bool s) 1 rfl
  have r_2 := r.cell (v := .bool false) 2 rfl
  go_wp2_with fail
  refine (K15.out _).mono ?_
  rintro e w2 ⟨rfl, hb⟩
  have hB2 := kcall hB1 hb
  replace r := r.bel hb
  clear hb hB1 r_l r_0 r_1 r_2
  have r_l := r.lt
  have r_0 := r.cell (v := .int .i64 b) 0 rfl
  have r_1 := r.cell (v := .bool s) 1 rfl
  have r_2 := r.cell (v := .bool false) 2 rfl
  go_wp2
  go_ret
  first | exact ⟨rfl, hB2⟩ | exact ⟨ret_bool (by simp; omega), hB2⟩
set_option maxRecDepth 100000 in
set_option maxHeartbeats 4000000 in
theorem ten_hi (b : Int) (s : Bool) (k n : Int) (w : World) (hk : 0 ≤ k ∧ k < 65536) (ho : okR b s false = true) (h0 : ¬ n < 0) (hr : 1073741824 ≤ n) :
    Calls Try.prog 8 #[.agg #[.int .i64 b, .bool s, .bool false], .int .u16 k, .int .i64 n] w fun e w' => e = .returned (.bool true) ∧ Below w.heap.size w w' := by
  have hB0 := Below.refl w.heap.size w
  obtain ⟨k1, k2⟩ := hk
  have K9 := hide sane_any
  have K15 := hide (fun w => refCheck_any b s false w)
  rw [chkR_ok ho] at K15
  clear ho
  go_enter Try.func8, Try.ntmps8
  go_wp2_with fail
  refine (K9.out _).mono ?_
  rintro e w1 ⟨rfl, hb⟩
  have hB1 := kcall (kalloc hB0 _) hb
  have r := (Blk.new _ #[.int .i64 b, .bool s, .bool false] 23).bel hb
  clear hb hB0 
  have r_l := r.lt
  have r_0 := r.cell (v := .int .i64 b) 0 rfl
  have r_1 := r.cell (v := .bool s) 1 rfl
  have r_2 := r.cell (v := .bool false) 2 rfl
  go_wp2_with fail
  refine (K15.out _).mono ?_
  rintro e w2 ⟨rfl, hb⟩
  have hB2 := kcall hB1 hb
  replace r := r.bel hb
  clear hb hB1 r_l r_0 r_1 r_2
  have r_l := r.lt
  have r_0 := r.cell (v := .int .i64 b) 0 rfl
  have r_1 := r.cell (v := .bool s) 1 rfl
  have r_2 := r.cell (v := .bool false) 2 rfl
  go_wp2
  go_ret
  first | exact ⟨rfl, hB2⟩ | exact ⟨ret_bool (by simp; omega), hB2⟩
set_option maxRecDepth 100000 in
set_option maxHeartbeats 4000000 in
theorem ten_plain (b : Int) (s : Bool) (k n : Int) (w : World) (hk : 0 ≤ k ∧ k < 65536) (ho : okR b s false = true) (hn : 0 ≤ n ∧ n < 1073741824) (ah am az af : Int) (hx : labelI b (dropR b false) n = ⟨ah, am, az, af⟩) (hr : ((ah * 60 + am) * 60 + az) * b + af = n ∧ af < b ∧ az < 60 ∧ am < 60 ∧ 0 ≤ ah ∧ 0 ≤ am ∧ 0 ≤ az ∧ 0 ≤ af ∧ ah ≤ n ∧ b ≤ 60 ∧ 24 ≤ b) :
    Calls Try.prog 8 #[.agg #[.int .i64 b, .bool s, .bool false], .int .u16 k, .int .i64 n] w fun e w' => e = .returned (.bool true) ∧ Below w.heap.size w w' := by
  have hB0 := Below.refl w.heap.size w
  obtain ⟨k1, k2⟩ := hk
  have K9 := hide sane_any
  have K15 := hide (fun w => refCheck_any b s false w)
  rw [chkR_ok ho] at K15
  have KA := hide (fun w => Label_any b s false n w)
  rw [labelR_ok ho hn, hx] at KA
  unfold Lb.v at KA
  dsimp only at KA
  obtain ⟨n1, n2⟩ := hn
  obtain ⟨u0, u1, u2, u3, u4, u5, u6, u7, u8, u9, u10⟩ := hr
  obtain ⟨mn, hmn0, hmin⟩ := min4 ah am az af u4 u5 u6 u7
  clear hx ho
  go_enter Try.func8, Try.ntmps8
  go_wp2_with fail
  refine (K9.out _).mono ?_
  rintro e w1 ⟨rfl, hb⟩
  have hB1 := kcall (kalloc hB0 _) hb
  have r := (Blk.new _ #[.int .i64 b, .bool s, .bool false] 23).bel hb
  clear hb hB0 
  have r_l := r.lt
  have r_0 := r.cell (v := .int .i64 b) 0 rfl
  have r_1 := r.cell (v := .bool s) 1 rfl
  have r_2 := r.cell (v := .bool false) 2 rfl
  go_wp2_with fail
  refine (K15.out _).mono ?_
  rintro e w2 ⟨rfl, hb⟩
  have hB2 := kcall hB1 hb
  replace r := r.bel hb
  clear hb hB1 r_l r_0 r_1 r_2
  have r_l := r.lt
  have r_0 := r.cell (v := .int .i64 b) 0 rfl
  have r_1 := r.cell (v := .bool s) 1 rfl
  have r_2 := r.cell (v := .bool false) 2 rfl
  go_wp2_with fail
  refine (KA.out _).mono ?_
  rintro e w3 ⟨rfl, hb⟩
  have hB3 := kcall hB2 hb
  replace r := r.bel hb
  clear hb hB2 r_l r_0 r_1 r_2
  have r_l := r.lt
  have r_0 := r.cell (v := .int .i64 b) 0 rfl
  have r_1 := r.cell (v := .bool s) 1 rfl
  have r_2 := r.cell (v := .bool false) 2 rfl
  go_wp2
  go_ret
  exact ⟨rfl, (kalloc hB3 _)⟩
set_option maxRecDepth 100000 in
set_option maxHeartbeats 4000000 in
theorem ten_drop (b : Int) (s : Bool) (k n : Int) (w : World) (hk : 0 ≤ k ∧ k < 65536) (ho : okR b s true = true) (F S : Int) (hF : frameR b s true (k % 2000 / 6) (k % 2000 % 6 * 10) 0 0 = (F, 0)) (hS : startR b s true F = (S, 0)) (u1 : S ≤ 600000 * (k % 2000)) (u2 : 600000 * (k % 2000) - k % 2000 ≤ S) :
    Calls Try.prog 8 #[.agg #[.int .i64 b, .bool s, .bool true], .int .u16 k, .int .i64 n] w fun e w' => e = .returned (.bool true) ∧ Below w.heap.size w w' := by
  have hB0 := Below.refl w.heap.size w
  obtain ⟨k1, k2⟩ := hk
  have K9 := hide sane_any
  have K15 := hide (fun w => refCheck_any b s true w)
  rw [chkR_ok ho] at K15
  have KF := hide (fun w => Frame_any b s true (k % 2000 / 6) (k % 2000 % 6 * 10) 0 0 w)
  have KS := hide (fun w => Start_any b s true F w)
  rw [hF] at KF
  rw [hS] at KS
  clear hF hS ho
  go_enter Try.func8, Try.ntmps8
  go_wp2_with fail
  refine (K9.out _).mono ?_
  rintro e w1 ⟨rfl, hb⟩
  have hB1 := kcall (kalloc hB0 _) hb
  have r := (Blk.new _ #[.int .i64 b, .bool s, .bool true] 23).bel hb
  clear hb hB0 
  have r_l := r.lt
  have r_0 := r.cell (v := .int .i64 b) 0 rfl
  have r_1 := r.cell (v := .bool s) 1 rfl
  have r_2 := r.cell (v := .bool true) 2 rfl
  go_wp2_with fail
  refine (K15.out _).mono ?_
  rintro e w2 ⟨rfl, hb⟩
  have hB2 := kcall hB1 hb
  replace r := r.bel hb
  clear hb hB1 r_l r_0 r_1 r_2
  have r_l := r.lt
  have r_0 := r.cell (v := .int .i64 b) 0 rfl
  have r_1 := r.cell (v := .bool s) 1 rfl
  have r_2 := r.cell (v := .bool true) 2 rfl
  go_wp2_with fail
  refine (KF.out _).mono ?_
  rintro e w3 ⟨rfl, hb⟩
  have hB3 := kcall hB2 hb
  replace r := r.bel hb
  clear hb hB2 r_l r_0 r_1 r_2
  have r_l := r.lt
  have r_0 := r.cell (v := .int .i64 b) 0 rfl
  have r_1 := r.cell (v := .bool s) 1 rfl
  have r_2 := r.cell (v := .bool true) 2 rfl
  go_wp2_with fail
  refine (KS.out _).mono ?_
  rintro e w4 ⟨rfl, hb⟩
  have hB4 := kcall hB3 hb
  replace r := r.bel hb
  clear hb hB3 r_l r_0 r_1 r_2
  have r_l := r.lt
  have r_0 := r.cell (v := .int .i64 b) 0 rfl
  have r_1 := r.cell (v := .bool s) 1 rfl
  have r_2 := r.cell (v := .bool true) 2 rfl
  go_wp2
  go_ret
  first | exact ⟨rfl, hB4⟩ | exact ⟨ret_bool (by simp; omega), hB4⟩
theorem framesTenth_law (b : Int) (s d : Bool) (k n : Int) (w : World) (hk : 0 ≤ k ∧ k < 65536) :
    Calls Try.prog 8 #[.agg #[.int .i64 b, .bool s, .bool d], .int .u16 k, .int .i64 n] w fun e w' => e = .returned (.bool true) ∧ Below w.heap.size w w' := by
  cases ho : okR b s d
  · exact ten_bad b s d k n w hk ho
  cases d
  · by_cases h0 : n < 0
    · exact ten_lo b s k n w hk ho h0
    by_cases h1 : n < 1073741824
    case neg => exact ten_hi b s k n w hk ho h0 (by omega)
    obtain ⟨ah, am, az, af, hx⟩ : ∃ ah am az af, labelI b (dropR b false) n = ⟨ah, am, az, af⟩ := ⟨_, _, _, _, rfl⟩
    exact ten_plain b s k n w hk ho ⟨by omega, h1⟩ ah am az af hx (label_plain ho ⟨by omega, h1⟩ hx)
  · obtain ⟨F, S, hF, hS, u1, u2⟩ := tenth ho (k := k % 2000) (by omega)
    exact ten_drop b s k n w hk ho F S hF hS u1 u2
end Go.Proofs.Ytbifppncjplebaa

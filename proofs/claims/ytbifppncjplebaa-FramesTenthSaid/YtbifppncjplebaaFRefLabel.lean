/-
  Layer 14 (frames): Label, by the reference: the same as by the program.
-/
import Derived.Test.YtbifppncjplebaaFLabel
namespace Go.Proofs.Ytbifppncjplebaa
open Go.RowKit Go.Mine

theorem minR_first {b D n : Int} (hp : Pair b D) (h0 : 0 ≤ n) : minR b D (n / (60 * b)) ≤ n ∧ 0 ≤ n / (60 * b) := by
  unfold minR
  rcases hp with ⟨rfl, rfl⟩ | ⟨rfl, rfl⟩ | ⟨rfl, rfl⟩ | ⟨rfl, rfl⟩ | ⟨rfl, rfl⟩ | ⟨rfl, rfl⟩ | ⟨rfl, rfl⟩ <;> omega
theorem minR_le {b D n m : Int} (hp : Pair b D) (h0 : 0 ≤ n) (h1 : minR b D m ≤ n) : m ≤ n := by
  unfold minR at h1
  rcases hp with ⟨rfl, rfl⟩ | ⟨rfl, rfl⟩ | ⟨rfl, rfl⟩ | ⟨rfl, rfl⟩ | ⟨rfl, rfl⟩ | ⟨rfl, rfl⟩ | ⟨rfl, rfl⟩ <;> omega
def kR (b D n m : Int) : Int := if m % 10 = 0 then n - minR b D m else n - minR b D m + D
theorem kR_is {b D n m : Int} (hp : Pair b D) (h0 : 0 ≤ n) (hm : 0 ≤ m) (h1 : minR b D m ≤ n) (h2 : n < minR b D (m + 1)) : 0 ≤ kR b D n m ∧ kR b D n m < 60 * b ∧ labelI b D n = ⟨m / 60, m % 60, kR b D n m / b, kR b D n m % b⟩ := by
  have key : 0 ≤ kR b D n m ∧ kR b D n m < 60 * b ∧ (m % 10 ≠ 0 → D ≤ kR b D n m) ∧ n = m * (60 * b) + kR b D n m - D * (m - m / 10) := by
    unfold kR
    unfold minR at h1 h2 ⊢
    rcases hp with ⟨rfl, rfl⟩ | ⟨rfl, rfl⟩ | ⟨rfl, rfl⟩ | ⟨rfl, rfl⟩ | ⟨rfl, rfl⟩ | ⟨rfl, rfl⟩ | ⟨rfl, rfl⟩ <;> split <;> omega
  obtain ⟨k1, k2, k3, k4⟩ := key
  exact ⟨k1, k2, labelI_eq hp h0 (cut_is hp hm k1 k2 k3 k4)⟩

/-- the world behind the box and the label of the reference's Label -/
structure LW2 (w w' : World) (b : Int) (s d : Bool) (x : Lb) : Prop where
  size : w.heap.size + 2 ≤ w'.heap.size
  c0 : w'.heap[w.heap.size]? = some (.cells #[.int .i64 b, .bool s, .bool d] 23 (0, 0))
  c2 : w'.heap[w.heap.size + 1]? = some (.cells #[.int .i64 x.h, .int .i64 x.m, .int .i64 x.s, .int .i64 x.f] 25 (0, 0))
  bel : Below w.heap.size w w'
theorem LW2.mk0 (w : World) (b : Int) (s d : Bool) : LW2 w ((w.alloc (.cells #[.int .i64 b, .bool s, .bool d] 23)).alloc (.cells #[.int .i64 0, .int .i64 0, .int .i64 0, .int .i64 0] 25)) b s d ⟨0, 0, 0, 0⟩ :=
  ⟨by simp, heap_alloc_at (heap_new _ _) _, new_row1 _ _ _, ((Below.refl _ _).alloc (Nat.le_refl _) _).alloc (by simp) _⟩
theorem LW2.step {w w' w'' : World} {b : Int} {s d : Bool} {x : Lb} (h : LW2 w w' b s d x) (k : Below w'.heap.size w' w'') : LW2 w w'' b s d x :=
  ⟨Nat.le_trans h.size k.size, (k.block _ (by have := h.size; omega)).trans h.c0, (k.block _ (by have := h.size; omega)).trans h.c2, h.bel.trans (k.mono h.bel.size)⟩

set_option maxRecDepth 100000 in
set_option maxHeartbeats 4000000 in
theorem refLabel_any (b : Int) (s d : Bool) (n : Int) (w : World) :
    Calls Try.prog 11 #[.agg #[.int .i64 b, .bool s, .bool d], .int .i64 n] w fun e w' => e = .returned (.tuple #[(labelR b s d n).1.v, .int .i64 (labelR b s d n).2]) ∧ Below w.heap.size w w' := by
  have KC := hide (fun w => refCheck_any b s d w)
  have KN := hide (fun w => frameN_any n w)
  cases ho : okR b s d
  · rw [chkR_bad ho] at KC
    have E := hide (show labelR b s d n = (⟨0, 0, 0, 0⟩, 140) by unfold labelR; rw [ho]; rfl)
    clear ho
    go_enter Try.func11, Try.ntmps11
    go_wp2_with fail
    refine (KC.out _).mono ?_
    rintro e w1 ⟨rfl, hb1⟩
    have hL := (LW2.mk0 w b s d).step hb1
    clear hb1
    (have x0 := heap_cell (v := .int .i64 0) (i := 0) hL.c2 rfl; have x1 := heap_cell (v := .int .i64 0) (i := 1) hL.c2 rfl; have x2 := heap_cell (v := .int .i64 0) (i := 2) hL.c2 rfl; have x3 := heap_cell (v := .int .i64 0) (i := 3) hL.c2 rfl; have f0 := heap_thaw (i := 0) hL.c2; have f1 := heap_thaw (i := 1) hL.c2; have f2 := heap_thaw (i := 2) hL.c2; have f3 := heap_thaw (i := 3) hL.c2)
    have HL := hide hL
    clear hL
    go_wp2
    refine bodyPost_ret (v := .tuple #[.agg #[.int .i64 0, .int .i64 0, .int .i64 0, .int .i64 0], .int .i64 140]) (by simp [results, Try.results11, go_sem, x0, x1, x2, x3]) rfl ⟨by rw [E.out]; rfl, ?_⟩
    exact (((HL.out.bel.setCell (by dsimp only; omega) _).setCell (by dsimp only; omega) _).setCell (by dsimp only; omega) _).setCell (by dsimp only; omega) _
  · obtain ⟨b1, b2⟩ := okR_pos ho
    rw [chkR_ok ho] at KC
    cases hn : numB n
    · rw [hn] at KN
      have E := hide (show labelR b s d n = (⟨0, 0, 0, 0⟩, 1) by unfold labelR; rw [ho, hn]; rfl)
      clear ho hn
      go_enter Try.func11, Try.ntmps11
      go_wp2_with fail
      refine (KC.out _).mono ?_
      rintro e w1 ⟨rfl, hb1⟩
      have hL := (LW2.mk0 w b s d).step hb1
      clear hb1
      (have x0 := heap_cell (v := .int .i64 0) (i := 0) hL.c2 rfl; have x1 := heap_cell (v := .int .i64 0) (i := 1) hL.c2 rfl; have x2 := heap_cell (v := .int .i64 0) (i := 2) hL.c2 rfl; have x3 := heap_cell (v := .int .i64 0) (i := 3) hL.c2 rfl; have f0 := heap_thaw (i := 0) hL.c2; have f1 := heap_thaw (i := 1) hL.c2; have f2 := heap_thaw (i := 2) hL.c2; have f3 := heap_thaw (i := 3) hL.c2)
      have HL := hide hL
      clear hL
      go_wp2_with (go_at_call 25; refine (KN.out _).mono ?_; rintro e w2 ⟨rfl, rfl⟩)
      refine bodyPost_ret (v := .tuple #[.agg #[.int .i64 0, .int .i64 0, .int .i64 0, .int .i64 0], .int .i64 1]) (by simp [results, Try.results11, go_sem, x0, x1, x2, x3]) rfl ⟨by rw [E.out]; rfl, ?_⟩
      exact (((HL.out.bel.setCell (by dsimp only; omega) _).setCell (by dsimp only; omega) _).setCell (by dsimp only; omega) _).setCell (by dsimp only; omega) _
    · rw [hn] at KN
      obtain ⟨n1, n2⟩ : 0 ≤ n ∧ n < 1073741824 := by simpa [numB] using hn
      have E := hide (show labelR b s d n = (labelI b (dropR b d) n, 0) by unfold labelR; rw [ho, hn]; rfl)
      have hD : 0 ≤ dropR b d ∧ dropR b d ≤ 4 := by unfold dropR; split <;> omega
      have HP := hide (pair_of ho)
      have KL := hide (fun w => left_any b s d ⟨by omega, b2⟩ w)
      have KM := hide (fun m (hM : 0 ≤ m ∧ m ≤ 1099511627776) w => minute_any b s d m ⟨by omega, b2⟩ hM w)
      have KV := hide (fun m (hM : 0 ≤ m ∧ m ≤ 1099511627776) => minR_bounds (M := m) (b := b) (D := dropR b d) ⟨by omega, b2⟩ hD hM)
      clear ho hn
      generalize dropR b d = D at KL KM KV hD E HP
      obtain ⟨d1, d2⟩ := hD
      have q := minR_first HP.out n1
      obtain ⟨q1, q2⟩ := q
      replace q1 := hide q1
      go_enter Try.func11, Try.ntmps11
      go_wp2_with fail
      refine (KC.out _).mono ?_
      rintro e w1 ⟨rfl, hb1⟩
      have hL := (LW2.mk0 w b s d).step hb1
      clear hb1
      (have y0 := heap_cell (v := .int .i64 b) (i := 0) hL.c0 rfl; have y1 := heap_cell (v := .bool s) (i := 1) hL.c0 rfl; have y2 := heap_cell (v := .bool d) (i := 2) hL.c0 rfl)
      have HL := hide hL
      clear hL KC
      go_wp2_with (go_at_call 25; refine (KN.out _).mono ?_; rintro e w2 ⟨rfl, rfl⟩)
      clear KN
      go_loopw [6] (fun i wr => ∃ m : Int, 0 ≤ m ∧ minR b D m ≤ n ∧ i = .int .i64 m ∧ LW2 w wr b s d ⟨0, 0, 0, 0⟩) (fun i _ => (n + 1 - intOf i).toNat)
      case atStart => exact ⟨_, q2, q1.out, rfl, HL.out⟩
      case round =>
        obtain ⟨m, hm0, hm1, rfl, hL⟩ := hrel
        clear y0 y1 y2 HL q1 q2
        have hmn := minR_le HP.out n1 hm1
        replace hm1 := hide hm1
        (have y0 := heap_cell (v := .int .i64 b) (i := 0) hL.c0 rfl; have y1 := heap_cell (v := .bool s) (i := 1) hL.c0 rfl; have y2 := heap_cell (v := .bool d) (i := 2) hL.c0 rfl)
        have HL := hide hL
        clear hL
        go_wp2_with fail
        refine (KM.out (m + 1) ⟨by omega, by omega⟩ _).mono ?_
        rintro e w3 ⟨rfl, hb3⟩
        have hL := HL.out.step hb3
        clear hb3 y0 y1 y2 HL
        (have y0 := heap_cell (v := .int .i64 b) (i := 0) hL.c0 rfl; have y1 := heap_cell (v := .bool s) (i := 1) hL.c0 rfl; have y2 := heap_cell (v := .bool d) (i := 2) hL.c0 rfl)
        (have x0 := heap_cell (v := .int .i64 0) (i := 0) hL.c2 rfl; have x1 := heap_cell (v := .int .i64 0) (i := 1) hL.c2 rfl; have x2 := heap_cell (v := .int .i64 0) (i := 2) hL.c2 rfl; have x3 := heap_cell (v := .int .i64 0) (i := 3) hL.c2 rfl; have f0 := heap_thaw (i := 0) hL.c2; have f1 := heap_thaw (i := 1) hL.c2; have f2 := heap_thaw (i := 2) hL.c2; have f3 := heap_thaw (i := 3) hL.c2)
        have HL := hide hL
        have hsz := hL.size
        clear hL
        by_cases hr : minR b D (m + 1) ≤ n
        · have hmn' := minR_le HP.out n1 hr
          have hr' := hide hr
          generalize minR b D (m + 1) = V at hr
          go_wp2_with fail
          go_roundw
          case rel => exact ⟨m + 1, by omega, hr'.out, by go_num, HL.out⟩
          case measure => simp [intOf]; omega
        · have hlt := hide (show n < minR b D (m + 1) by omega)
          generalize minR b D (m + 1) = V at hr
          clear x0 x1 x2 x3 f0 f1 f2 f3
          go_wp2_with fail
          refine (KM.out m ⟨by omega, by omega⟩ _).mono ?_
          rintro e w4 ⟨rfl, hb4⟩
          have hL := HL.out.step hb4
          clear hb4 y0 y1 y2 HL
          obtain ⟨k1, k2, k3⟩ := kR_is HP.out n1 hm0 hm1.out hlt.out
          replace E := hide (E.out.trans (by rw [k3]))
          have hv := KV.out m ⟨by omega, by omega⟩
          unfold kR at k1 k2 E
          generalize minR b D m = U at hv k1 k2 E
          obtain ⟨v1, v2⟩ := hv
          clear k3 hm1 hlt KM KV hr HP
          by_cases hz : m % 10 = 0
          · have hz' : (m % 10 != 0) = false := by simp [hz]
            rw [if_pos hz] at k1 k2 E
            have j1 : 0 ≤ (n - U) / b := Int.ediv_nonneg k1 (by omega)
            have j2 : (n - U) / b ≤ n - U := Int.ediv_le_self _ k1
            have j3 : 0 ≤ (n - U) % b := Int.emod_nonneg _ (by omega)
            have j4 : (n - U) % b < b := Int.emod_lt_of_pos _ (by omega)
            have hT : (b = 0) = False := by simp; omega
            have hq : IntKind.i64.wrap ((n - U).tdiv b) = (n - U) / b := IntWalk.i64_quo _ _ (by omega)
            have hm : (n - U).tmod b = (n - U) % b := IntWalk.rem_in _ _ k1
            clear hz
            (have y0 := heap_cell (v := .int .i64 b) (i := 0) hL.c0 rfl; have y1 := heap_cell (v := .bool s) (i := 1) hL.c0 rfl; have y2 := heap_cell (v := .bool d) (i := 2) hL.c0 rfl)
            (have x0 := heap_cell (v := .int .i64 0) (i := 0) hL.c2 rfl; have x1 := heap_cell (v := .int .i64 0) (i := 1) hL.c2 rfl; have x2 := heap_cell (v := .int .i64 0) (i := 2) hL.c2 rfl; have x3 := heap_cell (v := .int .i64 0) (i := 3) hL.c2 rfl; have f0 := heap_thaw (i := 0) hL.c2; have f1 := heap_thaw (i := 1) hL.c2; have f2 := heap_thaw (i := 2) hL.c2; have f3 := heap_thaw (i := 3) hL.c2)
            have HL := hide hL
            have hsz := hL.size
            clear hL
            go_wp2_with fail
            refine wp_still_tail 13 (by kernel_rfl) (by kernel_rfl) ?_
            simp only [List.take_succ_cons, List.take_zero, List.drop_succ_cons, List.drop_zero]
            repeat ((with_reducible refine wpStill_step (fun K hK => ?_)); go_simp; (try simp only [hT, hq, hm, if_false]); (try go_bits); (with_reducible refine hK _ ?_); clear hK K)
            (with_reducible refine wpStill_nil ?_)
            go_wp2_with fail
            refine ret_at (v := .tuple #[.agg #[.int .i64 (m / 60), .int .i64 (m % 60), .int .i64 ((n - U) / b), .int .i64 ((n - U) % b)], .int .i64 0])
              (fun wf => wf.heap[w.heap.size + 1]? = some (.cells #[.int .i64 (m / 60), .int .i64 (m % 60), .int .i64 ((n - U) / b), .int .i64 ((n - U) % b)] 25 (0, 0)))
              (heap_set_at (heap_set_at (heap_set_at (heap_set_at HL.out.c2 _) _) _) _)
              (fun wf hwf => by
                have x0 := heap_cell (v := .int .i64 (m / 60)) (i := 0) hwf rfl
                have x1 := heap_cell (v := .int .i64 (m % 60)) (i := 1) hwf rfl
                have x2 := heap_cell (v := .int .i64 ((n - U) / b)) (i := 2) hwf rfl
                have x3 := heap_cell (v := .int .i64 ((n - U) % b)) (i := 3) hwf rfl
                clear hwf
                simp [results, Try.results11, go_sem, x0, x1, x2, x3]) rfl ⟨by rw [E.out]; rfl, ?_⟩
            exact ((((HL.out.bel.setCell (by dsimp only; omega) _).setCell (by dsimp only; omega) _).setCell (by dsimp only; omega) _).setCell (by dsimp only; omega) _).drew
          · have hz' : (m % 10 != 0) = true := by simpa using hz
            rw [if_neg hz] at k1 k2 E
            have j1 : 0 ≤ (n - U + D) / b := Int.ediv_nonneg k1 (by omega)
            have j2 : (n - U + D) / b ≤ n - U + D := Int.ediv_le_self _ k1
            have j3 : 0 ≤ (n - U + D) % b := Int.emod_nonneg _ (by omega)
            have j4 : (n - U + D) % b < b := Int.emod_lt_of_pos _ (by omega)
            have hT : (b = 0) = False := by simp; omega
            have hq : IntKind.i64.wrap ((n - U + D).tdiv b) = (n - U + D) / b := IntWalk.i64_quo _ _ (by omega)
            have hm : (n - U + D).tmod b = (n - U + D) % b := IntWalk.rem_in _ _ k1
            clear hz
            (have y0 := heap_cell (v := .int .i64 b) (i := 0) hL.c0 rfl; have y1 := heap_cell (v := .bool s) (i := 1) hL.c0 rfl; have y2 := heap_cell (v := .bool d) (i := 2) hL.c0 rfl)
            have HL := hide hL
            clear hL
            go_wp2_with fail
            refine (KL.out _).mono ?_
            rintro e w5 ⟨rfl, hb5⟩
            have hL := HL.out.step hb5
            clear hb5 y0 y1 y2 HL
            (have y0 := heap_cell (v := .int .i64 b) (i := 0) hL.c0 rfl; have y1 := heap_cell (v := .bool s) (i := 1) hL.c0 rfl; have y2 := heap_cell (v := .bool d) (i := 2) hL.c0 rfl)
            (have x0 := heap_cell (v := .int .i64 0) (i := 0) hL.c2 rfl; have x1 := heap_cell (v := .int .i64 0) (i := 1) hL.c2 rfl; have x2 := heap_cell (v := .int .i64 0) (i := 2) hL.c2 rfl; have x3 := heap_cell (v := .int .i64 0) (i := 3) hL.c2 rfl; have f0 := heap_thaw (i := 0) hL.c2; have f1 := heap_thaw (i := 1) hL.c2; have f2 := heap_thaw (i := 2) hL.c2; have f3 := heap_thaw (i := 3) hL.c2)
            have HL := hide hL
            have hsz := hL.size
            clear hL
            go_wp2_with fail
            refine wp_still_tail 13 (by kernel_rfl) (by kernel_rfl) ?_
            simp only [List.take_succ_cons, List.take_zero, List.drop_succ_cons, List.drop_zero]
            repeat ((with_reducible refine wpStill_step (fun K hK => ?_)); go_simp; (try simp only [hT, hq, hm, if_false]); (try go_bits); (with_reducible refine hK _ ?_); clear hK K)
            (with_reducible refine wpStill_nil ?_)
            go_wp2_with fail
            refine ret_at (v := .tuple #[.agg #[.int .i64 (m / 60), .int .i64 (m % 60), .int .i64 ((n - U + D) / b), .int .i64 ((n - U + D) % b)], .int .i64 0])
              (fun wf => wf.heap[w.heap.size + 1]? = some (.cells #[.int .i64 (m / 60), .int .i64 (m % 60), .int .i64 ((n - U + D) / b), .int .i64 ((n - U + D) % b)] 25 (0, 0)))
              (heap_set_at (heap_set_at (heap_set_at (heap_set_at HL.out.c2 _) _) _) _)
              (fun wf hwf => by
                have x0 := heap_cell (v := .int .i64 (m / 60)) (i := 0) hwf rfl
                have x1 := heap_cell (v := .int .i64 (m % 60)) (i := 1) hwf rfl
                have x2 := heap_cell (v := .int .i64 ((n - U + D) / b)) (i := 2) hwf rfl
                have x3 := heap_cell (v := .int .i64 ((n - U + D) % b)) (i := 3) hwf rfl
                clear hwf
                simp [results, Try.results11, go_sem, x0, x1, x2, x3]) rfl ⟨by rw [E.out]; rfl, ?_⟩
            exact ((((HL.out.bel.setCell (by dsimp only; omega) _).setCell (by dsimp only; omega) _).setCell (by dsimp only; omega) _).setCell (by dsimp only; omega) _).drew
end Go.Proofs.Ytbifppncjplebaa

/-
  Layer 14 (frames): Label, by the program.
-/
import Derived.Test.YtbifppncjplebaaFRef
namespace Go.Proofs.Ytbifppncjplebaa
open Go.RowKit Go.Mine

theorem take_any (p : Nat) (N base : Int) (h0 : 0 ≤ N ∧ N ≤ 1125899906842624) (h1 : 0 < base ∧ base ≤ 60) (w : World) (hc : w.cell? ⟨p, 0, none⟩ = some (.int .i64 N)) (hf : w.frozen? ⟨p, 0, none⟩ = false) :
    Calls Try.prog 24 #[.int .i64 base, .pointer (some ⟨p, 0, none⟩)] w fun e w' => e = .returned (.int .i64 (N % base)) ∧ w' = w.setCell ⟨p, 0, none⟩ (.int .i64 (N / base)) := by
  obtain ⟨n1, n2⟩ := h0
  obtain ⟨b1, b2⟩ := h1
  have q1 : 0 ≤ N / base := Int.ediv_nonneg n1 (by omega)
  have q2 : N / base ≤ N := Int.ediv_le_self _ n1
  have q3 : 0 ≤ N % base := Int.emod_nonneg _ (by omega)
  have q4 : N % base < base := Int.emod_lt_of_pos _ b1
  go_enter Try.func24, Try.ntmps24
  go_wp2
  go_ret
  exact ⟨rfl, rfl⟩

/-- the world behind the box and the cells of Label -/
structure LW (w w' : World) (b : Int) (s d : Bool) (n : Int) (x : Lb) : Prop where
  size : w.heap.size + 3 ≤ w'.heap.size
  c0 : w'.heap[w.heap.size]? = some (.cells #[.int .i64 b, .bool s, .bool d] 23 (0, 0))
  c1 : w'.heap[w.heap.size + 1]? = some (.cells #[.int .i64 n] 3 (0, 0))
  c2 : w'.heap[w.heap.size + 2]? = some (.cells #[.int .i64 x.h, .int .i64 x.m, .int .i64 x.s, .int .i64 x.f] 25 (0, 0))
  bel : Below w.heap.size w w'
theorem LW.mk0 (w : World) (b : Int) (s d : Bool) (n : Int) : LW w (((w.alloc (.cells #[.int .i64 b, .bool s, .bool d] 23)).alloc (.cells #[.int .i64 n] 3)).alloc (.cells #[.int .i64 0, .int .i64 0, .int .i64 0, .int .i64 0] 25)) b s d n ⟨0, 0, 0, 0⟩ :=
  ⟨by simp, heap_alloc_at (heap_alloc_at (heap_new _ _) _) _, heap_alloc_at (new_row1 _ _ _) _, by have := heap_new ((w.alloc (.cells #[.int .i64 b, .bool s, .bool d] 23)).alloc (.cells #[.int .i64 n] 3)) (.cells #[.int .i64 0, .int .i64 0, .int .i64 0, .int .i64 0] 25); simpa using this,
    (((Below.refl _ _).alloc (Nat.le_refl _) _).alloc (by simp) _).alloc (by simp; omega) _⟩
theorem LW.step {w w' w'' : World} {b : Int} {s d : Bool} {n : Int} {x : Lb} (h : LW w w' b s d n x) (k : Below w'.heap.size w' w'') : LW w w'' b s d n x :=
  ⟨Nat.le_trans h.size k.size, (k.block _ (by have := h.size; omega)).trans h.c0, (k.block _ (by have := h.size; omega)).trans h.c1, (k.block _ (by have := h.size; omega)).trans h.c2, h.bel.trans (k.mono h.bel.size)⟩
theorem LW.setn {w w' : World} {b : Int} {s d : Bool} {n : Int} {x : Lb} (h : LW w w' b s d n x) (n' : Int) : LW w (w'.setCell ⟨w.heap.size + 1, 0, none⟩ (.int .i64 n')) b s d n' x :=
  ⟨by have := h.size; simpa [World.setCell] using this, (Below.heap_setCell _ _ _ _ (by dsimp only; omega)).trans h.c0, (heap_set_at h.c1 _).trans rfl, (Below.heap_setCell _ _ _ _ (by dsimp only; omega)).trans h.c2, h.bel.setCell (by dsimp only; omega) _⟩
theorem LW.drew {w w' : World} {b : Int} {s d : Bool} {n : Int} {x : Lb} (h : LW w w' b s d n x) : LW w w'.drew b s d n x := ⟨h.size, h.c0, h.c1, h.c2, h.bel.drew⟩
theorem heap_cell {w : World} {g i : Nat} {cs : Array Value} {e : TypeId} {v : Value} (h : w.heap[g]? = some (.cells cs e (0, 0))) (hv : cs[i]? = some v) : w.cell? ⟨g, i, none⟩ = some v := by simp [World.cell?, h, hv]
theorem heap_thaw {w : World} {g i : Nat} {cs : Array Value} {e : TypeId} (h : w.heap[g]? = some (.cells cs e (0, 0))) : w.frozen? ⟨g, i, none⟩ = false := by simp [World.frozen?, h]

theorem ret_at {P : Program} {fn : Func} {a : Act} {R : Ending → World → Prop} {w : World} {v : Value} (S : World → Prop) (h0 : S w) (h1 : ∀ w', S w' → (results fn a.tmps).run P w' = .ok v w') (hd : a.defers = []) (hR : R (.returned v) w) :
    bodyPost P fn R .ret a w := bodyPost_ret (h1 _ h0) hd hR
set_option maxRecDepth 100000 in
set_option maxHeartbeats 4000000 in
theorem Label_any (b : Int) (s d : Bool) (n : Int) (w : World) :
    Calls Try.prog 10 #[.agg #[.int .i64 b, .bool s, .bool d], .int .i64 n] w fun e w' => e = .returned (.tuple #[(labelR b s d n).1.v, .int .i64 (labelR b s d n).2]) ∧ Below w.heap.size w w' := by
  have KC := hide (fun w => fcheck_any b s d w)
  have KN := hide (fun w => numbered_any n w)
  cases ho : okR b s d
  · rw [chkR_bad ho] at KC
    have E := hide (show labelR b s d n = (⟨0, 0, 0, 0⟩, 140) by unfold labelR; rw [ho]; rfl)
    clear ho
    go_enter Try.func10, Try.ntmps10
    go_wp2_with fail
    refine (KC.out _).mono ?_
    rintro e w1 ⟨rfl, hb1⟩
    have hL := (LW.mk0 w b s d n).step hb1
    clear hb1
    (have x0 := heap_cell (v := .int .i64 0) (i := 0) hL.c2 rfl; have x1 := heap_cell (v := .int .i64 0) (i := 1) hL.c2 rfl; have x2 := heap_cell (v := .int .i64 0) (i := 2) hL.c2 rfl; have x3 := heap_cell (v := .int .i64 0) (i := 3) hL.c2 rfl; have f0 := heap_thaw (i := 0) hL.c2; have f1 := heap_thaw (i := 1) hL.c2; have f2 := heap_thaw (i := 2) hL.c2; have f3 := heap_thaw (i := 3) hL.c2)
    have HL := hide hL
    clear hL
    go_wp2
    refine bodyPost_ret (v := .tuple #[.agg #[.int .i64 0, .int .i64 0, .int .i64 0, .int .i64 0], .int .i64 140]) (by simp [results, Try.results10, go_sem, x0, x1, x2, x3]) rfl ⟨by rw [E.out]; rfl, ?_⟩
    exact (((HL.out.bel.setCell (by dsimp only; omega) _).setCell (by dsimp only; omega) _).setCell (by dsimp only; omega) _).setCell (by dsimp only; omega) _
  · obtain ⟨b1, b2⟩ := okR_pos ho
    rw [chkR_ok ho] at KC
    cases hn : numB n
    · rw [hn] at KN
      have E := hide (show labelR b s d n = (⟨0, 0, 0, 0⟩, 1) by unfold labelR; rw [ho, hn]; rfl)
      clear ho hn
      go_enter Try.func10, Try.ntmps10
      go_wp2_with fail
      refine (KC.out _).mono ?_
      rintro e w1 ⟨rfl, hb1⟩
      have hL := (LW.mk0 w b s d n).step hb1
      clear hb1
      (have x0 := heap_cell (v := .int .i64 0) (i := 0) hL.c2 rfl; have x1 := heap_cell (v := .int .i64 0) (i := 1) hL.c2 rfl; have x2 := heap_cell (v := .int .i64 0) (i := 2) hL.c2 rfl; have x3 := heap_cell (v := .int .i64 0) (i := 3) hL.c2 rfl; have f0 := heap_thaw (i := 0) hL.c2; have f1 := heap_thaw (i := 1) hL.c2; have f2 := heap_thaw (i := 2) hL.c2; have f3 := heap_thaw (i := 3) hL.c2)
      (have y0 := heap_cell (v := .int .i64 b) (i := 0) hL.c0 rfl; have y1 := heap_cell (v := .bool s) (i := 1) hL.c0 rfl; have y2 := heap_cell (v := .bool d) (i := 2) hL.c0 rfl; have z0 := heap_cell (v := .int .i64 n) (i := 0) hL.c1 rfl; have g0 := heap_thaw (i := 0) hL.c1)
      have HL := hide hL
      clear hL
      go_wp2_with (go_at_call 22; refine (KN.out _).mono ?_; rintro e w2 ⟨rfl, rfl⟩)
      refine bodyPost_ret (v := .tuple #[.agg #[.int .i64 0, .int .i64 0, .int .i64 0, .int .i64 0], .int .i64 1]) (by simp [results, Try.results10, go_sem, x0, x1, x2, x3]) rfl ⟨by rw [E.out]; rfl, ?_⟩
      exact (((HL.out.bel.setCell (by dsimp only; omega) _).setCell (by dsimp only; omega) _).setCell (by dsimp only; omega) _).setCell (by dsimp only; omega) _
    · rw [hn] at KN
      obtain ⟨n1, n2⟩ : 0 ≤ n ∧ n < 1073741824 := by simpa [numB] using hn
      have E := hide (show labelR b s d n = (labelI b (dropR b d) n, 0) by unfold labelR; rw [ho, hn]; rfl)
      have hD : 0 ≤ dropR b d ∧ dropR b d ≤ 4 := by unfold dropR; split <;> omega
      have KD := hide (fun w => dropped_any b s d ⟨by omega, b2⟩ w)
      clear ho hn
      generalize dropR b d = D at KD hD E
      obtain ⟨d1, d2⟩ := hD
      have KT := hide take_any
      have p1 : 0 ≤ n / (600 * b - 9 * D) := Int.ediv_nonneg n1 (by omega)
      have p2 : n / (600 * b - 9 * D) ≤ n := Int.ediv_le_self _ n1
      have p3 : 0 ≤ n % (600 * b - 9 * D) := Int.emod_nonneg _ (by omega)
      have p4 : n % (600 * b - 9 * D) < 600 * b - 9 * D := Int.emod_lt_of_pos _ (by omega)
      have p5 : 0 ≤ 9 * D * (n / (600 * b - 9 * D)) := Int.mul_nonneg (by omega) p1
      have p6 : 9 * D * (n / (600 * b - 9 * D)) ≤ 36 * 1073741824 := Int.mul_le_mul (by omega) (by omega) p1 (by omega)
      go_enter Try.func10, Try.ntmps10
      go_wp2_with fail
      refine (KC.out _).mono ?_
      rintro e w1 ⟨rfl, hb1⟩
      have hL := (LW.mk0 w b s d n).step hb1
      clear hb1
      (have y0 := heap_cell (v := .int .i64 b) (i := 0) hL.c0 rfl; have y1 := heap_cell (v := .bool s) (i := 1) hL.c0 rfl; have y2 := heap_cell (v := .bool d) (i := 2) hL.c0 rfl; have z0 := heap_cell (v := .int .i64 n) (i := 0) hL.c1 rfl; have g0 := heap_thaw (i := 0) hL.c1)
      have HL := hide hL
      clear hL
      go_wp2_with (go_at_call 22; refine (KN.out _).mono ?_; rintro e w2 ⟨rfl, rfl⟩)
      refine (KD.out _).mono ?_
      rintro e w2 ⟨rfl, hb2⟩
      have hL := HL.out.step hb2
      clear hb2 HL y0 y1 y2 z0 g0 KC KN KD
      (have y0 := heap_cell (v := .int .i64 b) (i := 0) hL.c0 rfl; have y1 := heap_cell (v := .bool s) (i := 1) hL.c0 rfl; have y2 := heap_cell (v := .bool d) (i := 2) hL.c0 rfl; have z0 := heap_cell (v := .int .i64 n) (i := 0) hL.c1 rfl; have g0 := heap_thaw (i := 0) hL.c1)
      have HL := hide hL
      clear hL
      go_wp2
      have hT : (600 * b - 9 * D = 0) = False := by simp; omega
      have hq : IntKind.i64.wrap (n.tdiv (600 * b - 9 * D)) = n / (600 * b - 9 * D) := IntWalk.i64_quo _ _ (by omega)
      have hm : n.tmod (600 * b - 9 * D) = n % (600 * b - 9 * D) := IntWalk.rem_in _ _ n1
      refine wp_still_all (by kernel_rfl) (by kernel_rfl) ?_
      repeat ((with_reducible refine wpStill_step (fun K hK => ?_)); go_simp; (try simp only [hT, hq, hm, if_false]); (try go_bits); (with_reducible refine hK _ ?_); clear hK K)
      (with_reducible refine wpStill_nil ?_)
      by_cases hr : 60 * b ≤ n % (600 * b - 9 * D)
      · have EL := hide (show labelR b s d n = (cut b (n + 9 * D * (n / (600 * b - 9 * D)) + D * ((n % (600 * b - 9 * D) - D) / (60 * b - D))), 0) by rw [E.out, labelI, nx, if_pos hr])
        have r1 : 0 ≤ (n % (600 * b - 9 * D) - D) / (60 * b - D) := Int.ediv_nonneg (by omega) (by omega)
        have r2 : (n % (600 * b - 9 * D) - D) / (60 * b - D) ≤ n % (600 * b - 9 * D) - D := Int.ediv_le_self _ (by omega)
        have r3 : 0 ≤ D * ((n % (600 * b - 9 * D) - D) / (60 * b - D)) := Int.mul_nonneg (by omega) r1
        have r4 : D * ((n % (600 * b - 9 * D) - D) / (60 * b - D)) ≤ 4 * 36000 := Int.mul_le_mul (by omega) (by omega) r1 (by omega)
        have hT : (60 * b - D = 0) = False := by simp; omega
        have hq : IntKind.i64.wrap ((n % (600 * b - 9 * D) - D).tdiv (60 * b - D)) = (n % (600 * b - 9 * D) - D) / (60 * b - D) := IntWalk.i64_quo _ _ (by omega)
        have hL := ((HL.out.setn (n + 9 * D * (n / (600 * b - 9 * D)))).setn (n + 9 * D * (n / (600 * b - 9 * D)) + D * ((n % (600 * b - 9 * D) - D) / (60 * b - D)))).drew.drew
        have hN1 : 0 ≤ n + 9 * D * (n / (600 * b - 9 * D)) + D * ((n % (600 * b - 9 * D) - D) / (60 * b - D)) ∧ n + 9 * D * (n / (600 * b - 9 * D)) + D * ((n % (600 * b - 9 * D) - D) / (60 * b - D)) ≤ 1125899906842624 := by omega
        replace hL := hide hL
        go_wp2_with fail
        refine wp_still_tail 13 (by kernel_rfl) (by kernel_rfl) ?_
        simp only [List.take_succ_cons, List.take_zero, List.drop_succ_cons, List.drop_zero]
        repeat ((with_reducible refine wpStill_step (fun K hK => ?_)); go_simp; (try simp only [hT, hq, hm, if_false]); (try go_bits); (with_reducible refine hK _ ?_); clear hK K)
        (with_reducible refine wpStill_nil ?_)
        go_wp2_with fail
        go_at_call 24
        (refine (KT.out (w.heap.size + 1) _ b hN1 ⟨by omega, b2⟩ _ (heap_cell hL.out.c1 rfl) (heap_thaw hL.out.c1)).mono ?_)
        rintro e w4 ⟨rfl, hw4⟩
        have hL4 := hL.out.setn ((n + 9 * D * (n / (600 * b - 9 * D)) + D * ((n % (600 * b - 9 * D) - D) / (60 * b - D))) / b)
        rw [← hw4] at hL4
        clear hw4 hL HL y0 y1 y2 z0 g0
        generalize (n + 9 * D * (n / (600 * b - 9 * D)) + D * ((n % (600 * b - 9 * D) - D) / (60 * b - D))) = N at hN1 hL4 EL ⊢
        obtain ⟨u1, u2⟩ := hN1
        have v1 : 0 ≤ N / b := Int.ediv_nonneg u1 (by omega)
        have v2 : N / b ≤ N := Int.ediv_le_self _ u1
        have v3 : 0 ≤ N % b := Int.emod_nonneg _ (by omega)
        have v4 : N % b < b := Int.emod_lt_of_pos _ (by omega)
        replace hL4 := hide hL4
        go_wp2_with fail
        go_at_call 24
        refine (KT.out (w.heap.size + 1) _ 60 ⟨v1, by omega⟩ ⟨by omega, by omega⟩ _ (heap_cell hL4.out.c1 rfl) (heap_thaw hL4.out.c1)).mono ?_
        rintro e w5 ⟨rfl, hw5⟩
        have hL5 := hL4.out.setn (N / b / 60)
        rw [← hw5] at hL5
        clear hw5 hL4
        replace hL5 := hide hL5
        go_wp2_with fail
        go_at_call 24
        refine (KT.out (w.heap.size + 1) _ 60 ⟨by omega, by omega⟩ ⟨by omega, by omega⟩ _ (heap_cell hL5.out.c1 rfl) (heap_thaw hL5.out.c1)).mono ?_
        rintro e w6 ⟨rfl, hw6⟩
        have hL := hL5.out.setn (N / b / 60 / 60)
        rw [← hw6] at hL
        clear hw6 hL5
        (have x0 := heap_cell (v := .int .i64 0) (i := 0) hL.c2 rfl; have x1 := heap_cell (v := .int .i64 0) (i := 1) hL.c2 rfl; have x2 := heap_cell (v := .int .i64 0) (i := 2) hL.c2 rfl; have x3 := heap_cell (v := .int .i64 0) (i := 3) hL.c2 rfl; have f0 := heap_thaw (i := 0) hL.c2; have f1 := heap_thaw (i := 1) hL.c2; have f2 := heap_thaw (i := 2) hL.c2; have f3 := heap_thaw (i := 3) hL.c2)
        have z0 := heap_cell (v := .int .i64 (N / b / 60 / 60)) (i := 0) hL.c1 rfl
        have HL := hide hL
        clear hL
        go_wp2_with fail
        refine ret_at (v := .tuple #[.agg #[.int .i64 (N / b / 60 / 60), .int .i64 (N / b / 60 % 60), .int .i64 (N / b % 60), .int .i64 (N % b)], .int .i64 0])
          (fun wf => wf.heap[w.heap.size + 2]? = some (.cells #[.int .i64 (N / b / 60 / 60), .int .i64 (N / b / 60 % 60), .int .i64 (N / b % 60), .int .i64 (N % b)] 25 (0, 0)))
          (heap_set_at (heap_set_at (heap_set_at (heap_set_at (heap_set_at (heap_set_at (heap_set_at (heap_set_at HL.out.c2 _) _) _) _) _) _) _) _)
          (fun wf hwf => by
            have x0 := heap_cell (v := .int .i64 (N / b / 60 / 60)) (i := 0) hwf rfl
            have x1 := heap_cell (v := .int .i64 (N / b / 60 % 60)) (i := 1) hwf rfl
            have x2 := heap_cell (v := .int .i64 (N / b % 60)) (i := 2) hwf rfl
            have x3 := heap_cell (v := .int .i64 (N % b)) (i := 3) hwf rfl
            clear hwf
            simp [results, Try.results10, go_sem, x0, x1, x2, x3]) rfl ⟨by rw [EL.out]; rfl, ?_⟩
        exact (((((((HL.out.bel.setCell (by dsimp only; omega) _).setCell (by dsimp only; omega) _).setCell (by dsimp only; omega) _).setCell (by dsimp only; omega) _).setCell (by dsimp only; omega) _).setCell (by dsimp only; omega) _).setCell (by dsimp only; omega) _).setCell (by dsimp only; omega) _
      · have EL := hide (show labelR b s d n = (cut b (n + 9 * D * (n / (600 * b - 9 * D))), 0) by rw [E.out, labelI, nx, if_neg hr])
        have hN1 : 0 ≤ n + 9 * D * (n / (600 * b - 9 * D)) ∧ n + 9 * D * (n / (600 * b - 9 * D)) ≤ 1125899906842624 := by omega
        have hL := hide (HL.out.setn (n + 9 * D * (n / (600 * b - 9 * D)))).drew
        go_wp2_with fail
        go_at_call 24
        (refine (KT.out (w.heap.size + 1) _ b hN1 ⟨by omega, b2⟩ _ (heap_cell hL.out.c1 rfl) (heap_thaw hL.out.c1)).mono ?_)
        rintro e w4 ⟨rfl, hw4⟩
        have hL4 := hL.out.setn ((n + 9 * D * (n / (600 * b - 9 * D))) / b)
        rw [← hw4] at hL4
        clear hw4 hL HL y0 y1 y2 z0 g0
        generalize (n + 9 * D * (n / (600 * b - 9 * D))) = N at hN1 hL4 EL ⊢
        obtain ⟨u1, u2⟩ := hN1
        have v1 : 0 ≤ N / b := Int.ediv_nonneg u1 (by omega)
        have v2 : N / b ≤ N := Int.ediv_le_self _ u1
        have v3 : 0 ≤ N % b := Int.emod_nonneg _ (by omega)
        have v4 : N % b < b := Int.emod_lt_of_pos _ (by omega)
        replace hL4 := hide hL4
        go_wp2_with fail
        go_at_call 24
        refine (KT.out (w.heap.size + 1) _ 60 ⟨v1, by omega⟩ ⟨by omega, by omega⟩ _ (heap_cell hL4.out.c1 rfl) (heap_thaw hL4.out.c1)).mono ?_
        rintro e w5 ⟨rfl, hw5⟩
        have hL5 := hL4.out.setn (N / b / 60)
        rw [← hw5] at hL5
        clear hw5 hL4
        replace hL5 := hide hL5
        go_wp2_with fail
        go_at_call 24
        refine (KT.out (w.heap.size + 1) _ 60 ⟨by omega, by omega⟩ ⟨by omega, by omega⟩ _ (heap_cell hL5.out.c1 rfl) (heap_thaw hL5.out.c1)).mono ?_
        rintro e w6 ⟨rfl, hw6⟩
        have hL := hL5.out.setn (N / b / 60 / 60)
        rw [← hw6] at hL
        clear hw6 hL5
        (have x0 := heap_cell (v := .int .i64 0) (i := 0) hL.c2 rfl; have x1 := heap_cell (v := .int .i64 0) (i := 1) hL.c2 rfl; have x2 := heap_cell (v := .int .i64 0) (i := 2) hL.c2 rfl; have x3 := heap_cell (v := .int .i64 0) (i := 3) hL.c2 rfl; have f0 := heap_thaw (i := 0) hL.c2; have f1 := heap_thaw (i := 1) hL.c2; have f2 := heap_thaw (i := 2) hL.c2; have f3 := heap_thaw (i := 3) hL.c2)
        have z0 := heap_cell (v := .int .i64 (N / b / 60 / 60)) (i := 0) hL.c1 rfl
        have HL := hide hL
        clear hL
        go_wp2_with fail
        refine ret_at (v := .tuple #[.agg #[.int .i64 (N / b / 60 / 60), .int .i64 (N / b / 60 % 60), .int .i64 (N / b % 60), .int .i64 (N % b)], .int .i64 0])
          (fun wf => wf.heap[w.heap.size + 2]? = some (.cells #[.int .i64 (N / b / 60 / 60), .int .i64 (N / b / 60 % 60), .int .i64 (N / b % 60), .int .i64 (N % b)] 25 (0, 0)))
          (heap_set_at (heap_set_at (heap_set_at (heap_set_at (heap_set_at (heap_set_at (heap_set_at (heap_set_at HL.out.c2 _) _) _) _) _) _) _) _)
          (fun wf hwf => by
            have x0 := heap_cell (v := .int .i64 (N / b / 60 / 60)) (i := 0) hwf rfl
            have x1 := heap_cell (v := .int .i64 (N / b / 60 % 60)) (i := 1) hwf rfl
            have x2 := heap_cell (v := .int .i64 (N / b % 60)) (i := 2) hwf rfl
            have x3 := heap_cell (v := .int .i64 (N % b)) (i := 3) hwf rfl
            clear hwf
            simp [results, Try.results10, go_sem, x0, x1, x2, x3]) rfl ⟨by rw [EL.out]; rfl, ?_⟩
        exact (((((((HL.out.bel.setCell (by dsimp only; omega) _).setCell (by dsimp only; omega) _).setCell (by dsimp only; omega) _).setCell (by dsimp only; omega) _).setCell (by dsimp only; omega) _).setCell (by dsimp only; omega) _).setCell (by dsimp only; omega) _).setCell (by dsimp only; omega) _
end Go.Proofs.Ytbifppncjplebaa

/-
  Layer 14 (frames): is a label used, by the reference.
-/
import Derived.Test.YtbifppncjplebaaFPure
namespace Go.Proofs.Ytbifppncjplebaa
open Go.RowKit Go.Mine

def usedV (b D h m s f : Int) : Bool := rangeB b h m s f && !leftOut D m s f

set_option maxHeartbeats 2000000 in
theorem Used_any (b : Int) (s d : Bool) (h m sc f : Int) (hb : 0 ≤ b ∧ b ≤ 60) (w : World) :
    Calls Try.prog 28 #[.agg #[.int .i64 b, .bool s, .bool d], .agg #[.int .i64 h, .int .i64 m, .int .i64 sc, .int .i64 f]] w fun e w' => e = .returned (.bool (usedV b (dropR b d) h m sc f)) ∧ Below w.heap.size w w' := by
  have K := hide (fun w => left_any b s d hb w)
  generalize dropR b d = D at K
  obtain ⟨b1, b2⟩ := hb
  cases hr : rangeB b h m sc f
  · have E := hide (show usedV b D h m sc f = false by unfold usedV; rw [hr]; rfl)
    have hc : h < 0 ∨ (¬ h < 0 ∧ m < 0) ∨ (¬ h < 0 ∧ ¬ m < 0 ∧ 59 < m) ∨ (¬ h < 0 ∧ ¬ m < 0 ∧ ¬ 59 < m ∧ sc < 0) ∨ (¬ h < 0 ∧ ¬ m < 0 ∧ ¬ 59 < m ∧ ¬ sc < 0 ∧ 59 < sc) ∨ (¬ h < 0 ∧ ¬ m < 0 ∧ ¬ 59 < m ∧ ¬ sc < 0 ∧ ¬ 59 < sc ∧ f < 0) ∨ (¬ h < 0 ∧ ¬ m < 0 ∧ ¬ 59 < m ∧ ¬ sc < 0 ∧ ¬ 59 < sc ∧ ¬ f < 0 ∧ b ≤ f) := by
      rw [← Bool.not_eq_true, rangeB_iff] at hr
      omega
    clear hr
    rcases hc with c | ⟨c, c2⟩ | ⟨c, c2, c3⟩ | ⟨c, c2, c3, c4⟩ | ⟨c, c2, c3, c4, c5⟩ | ⟨c, c2, c3, c4, c5, c6⟩ | ⟨c, c2, c3, c4, c5, c6, c7⟩
    all_goals
      go_enter Try.func28, Try.ntmps28
      go_wp2
      go_ret
      exact ⟨ret_bool E.out.symm, (((Below.refl w.heap.size w).alloc (Nat.le_refl _) (Obj.cells #[.int .i64 b, .bool s, .bool d] 23)).alloc (by simp) (Obj.cells #[.int .i64 h, .int .i64 m, .int .i64 sc, .int .i64 f] 25))⟩
  · obtain ⟨r1, r2, r3, r4, r5, r6, r7⟩ := rangeB_iff .. |>.1 hr
    have hc : ((m % 10 == 0) = true ∧ usedV b D h m sc f = true) ∨ ((m % 10 == 0) = false ∧ decide (0 < sc) = true ∧ usedV b D h m sc f = true) ∨ ((m % 10 == 0) = false ∧ decide (0 < sc) = false ∧ decide (D ≤ f) = true ∧ usedV b D h m sc f = true) ∨ ((m % 10 == 0) = false ∧ decide (0 < sc) = false ∧ decide (D ≤ f) = false ∧ usedV b D h m sc f = false) := by
      have e : usedV b D h m sc f = !leftOut D m sc f := by unfold usedV; rw [hr]; rfl
      rw [e]
      unfold leftOut
      by_cases c1 : m % 10 = 0 <;> by_cases c2 : sc = 0 <;> by_cases c3 : f < D <;> simp [c1, c2, c3] <;> omega
    clear hr
    rcases hc with ⟨c1, E⟩ | ⟨c1, c2, E⟩ | ⟨c1, c2, c3, E⟩ | ⟨c1, c2, c3, E⟩
    all_goals
      replace E := hide E
      go_enter Try.func28, Try.ntmps28
      go_wp2_with fail
      generalize hw1 : (w.alloc (Obj.cells #[.int .i64 b, .bool s, .bool d] 23)).alloc (Obj.cells #[.int .i64 h, .int .i64 m, .int .i64 sc, .int .i64 f] 25) = w1
      have hB : Below w.heap.size w w1 := by rw [← hw1]; exact (((Below.refl w.heap.size w).alloc (Nat.le_refl _) (Obj.cells #[.int .i64 b, .bool s, .bool d] 23)).alloc (by simp) (Obj.cells #[.int .i64 h, .int .i64 m, .int .i64 sc, .int .i64 f] 25))
      have hlt : w.heap.size < w1.heap.size := by rw [← hw1]; simp; omega
      have hlt' : w.heap.size + 1 < w1.heap.size := by rw [← hw1]; simp
      have c0 := BW.get hlt (show w1.cell? ⟨w.heap.size, 0, none⟩ = some (.int .i64 b) by rw [← hw1, World.cell?, heap_alloc_at (heap_new _ _)]; rfl)
      have c1' := BW.get hlt (show w1.cell? ⟨w.heap.size, 1, none⟩ = some (.bool s) by rw [← hw1, World.cell?, heap_alloc_at (heap_new _ _)]; rfl)
      have c2' := BW.get hlt (show w1.cell? ⟨w.heap.size, 2, none⟩ = some (.bool d) by rw [← hw1, World.cell?, heap_alloc_at (heap_new _ _)]; rfl)
      have l1 := BW.get hlt' (show w1.cell? ⟨w.heap.size + 1, 1, none⟩ = some (.int .i64 m) by rw [← hw1, World.cell?, new_row1]; rfl)
      have l2 := BW.get hlt' (show w1.cell? ⟨w.heap.size + 1, 2, none⟩ = some (.int .i64 sc) by rw [← hw1, World.cell?, new_row1]; rfl)
      have l3 := BW.get hlt' (show w1.cell? ⟨w.heap.size + 1, 3, none⟩ = some (.int .i64 f) by rw [← hw1, World.cell?, new_row1]; rfl)
      clear hw1
      refine wp_quiet_below (by kernel_rfl) (by kernel_rfl) ?_
      repeat (go_big_quiet_step ((go_at_call 27; exact quiet_below (K.out _))))
      refine wpQuiet_nil ?_
      rintro _ ⟨x, rfl⟩
      have hx := x.below
      go_wp2
      go_ret
      exact ⟨ret_bool E.out.symm, hB.trans (hx.mono hB.size)⟩
end Go.Proofs.Ytbifppncjplebaa

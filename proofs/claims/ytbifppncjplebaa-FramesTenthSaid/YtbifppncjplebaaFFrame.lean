/-
  Layer 14 (frames): Frame, by the program.
-/
import Derived.Test.YtbifppncjplebaaFIdx
namespace Go.Proofs.Ytbifppncjplebaa
open Go.RowKit Go.Mine

def rangeB (b h m s f : Int) : Bool := decide (0 ≤ h) && decide (0 ≤ m) && decide (m < 60) && decide (0 ≤ s) && decide (s < 60) && decide (0 ≤ f) && decide (f < b)
theorem rangeB_iff (b h m s f : Int) : rangeB b h m s f = true ↔ 0 ≤ h ∧ 0 ≤ m ∧ m < 60 ∧ 0 ≤ s ∧ s < 60 ∧ 0 ≤ f ∧ f < b := by simp [rangeB, and_assoc]
def leftOut (D m s f : Int) : Bool := !(decide (m % 10 = 0)) && decide (s = 0) && decide (f < D)
def numOf (b D h m s f : Int) : Int := (60 * (60 * h + m) + s) * b + f - D * (60 * h + m - (60 * h + m) / 10)
def frameR (b : Int) (s d : Bool) (h m sc f : Int) : Int × Int :=
  if okR b s d = true then if rangeB b h m sc f = true then if leftOut (dropR b d) m sc f = true then (0, 140) else if 1073741824 ≤ h then (0, 2) else
    if numB (numOf b (dropR b d) h m sc f) = true then (numOf b (dropR b d) h m sc f, 0) else (0, 2) else (0, 140) else (0, 140)

set_option maxHeartbeats 4000000 in
theorem Frame_any (b : Int) (s d : Bool) (h m sc f : Int) (w : World) :
    Calls Try.prog 12 #[.agg #[.int .i64 b, .bool s, .bool d], .agg #[.int .i64 h, .int .i64 m, .int .i64 sc, .int .i64 f]] w fun e w' => e = .returned (.tuple #[.int .i64 (frameR b s d h m sc f).1, .int .i64 (frameR b s d h m sc f).2]) ∧ Below w.heap.size w w' := by
  have KC := hide (fun w => fcheck_any b s d w)
  cases ho : okR b s d
  · rw [chkR_bad ho] at KC
    have E := hide (show frameR b s d h m sc f = (0, 140) by unfold frameR; rw [ho]; rfl)
    clear ho
    go_enter Try.func12, Try.ntmps12
    go_wp2_with (go_at_call 14; refine (KC.out _).mono ?_; rintro e w1 ⟨rfl, hb1⟩)
    go_ret2
    exact ⟨by rw [E.out]; rfl, (((Below.refl _ _).alloc (Nat.le_refl _) _).alloc (by simp) _).trans (hb1.mono (by simp; omega))⟩
  · obtain ⟨b1, b2⟩ := okR_pos ho
    rw [chkR_ok ho] at KC
    have hD : 0 ≤ dropR b d ∧ dropR b d ≤ 4 := by unfold dropR; split <;> omega
    have KD := hide (fun w => dropped_any b s d ⟨by omega, b2⟩ w)
    have KN := hide (fun n w => numbered_any n w)
    have E := hide (show frameR b s d h m sc f = if rangeB b h m sc f = true then if leftOut (dropR b d) m sc f = true then (0, 140) else if 1073741824 ≤ h then (0, 2) else
    if numB (numOf b (dropR b d) h m sc f) = true then (numOf b (dropR b d) h m sc f, 0) else (0, 2) else (0, 140) by unfold frameR; rw [ho, if_pos rfl])
    clear ho
    generalize dropR b d = D at KD hD E
    obtain ⟨d1, d2⟩ := hD
    go_enter Try.func12, Try.ntmps12
    go_wp2_with fail
    refine (KC.out _).mono ?_
    rintro e w1 ⟨rfl, hb1⟩
    have hB1 := (((Below.refl w.heap.size w).alloc (Nat.le_refl _) (Obj.cells #[.int .i64 b, .bool s, .bool d] 23)).alloc (by simp) (Obj.cells #[.int .i64 h, .int .i64 m, .int .i64 sc, .int .i64 f] 25)).trans (hb1.mono (by simp; omega))
    have k0 : ∀ (j : Nat) v, #[Value.int .i64 b, .bool s, .bool d][j]? = some v → w1.cell? ⟨w.heap.size, j, none⟩ = some v := fun j v hv => (hb1.cell (p := ⟨w.heap.size, j, none⟩) (by simp; omega)).trans (by rw [World.cell?, heap_alloc_at (heap_new _ _)]; exact hv)
    have l0 : ∀ (j : Nat) v, #[Value.int .i64 h, .int .i64 m, .int .i64 sc, .int .i64 f][j]? = some v → w1.cell? ⟨w.heap.size + 1, j, none⟩ = some v := fun j v hv => (hb1.cell (p := ⟨w.heap.size + 1, j, none⟩) (by simp)).trans (by rw [World.cell?, new_row1]; exact hv)
    have hz : w.heap.size + 2 ≤ w1.heap.size := by have := hb1.size; simp at this; omega
    clear hb1
    have ka := k0 0 _ rfl
    have kb := k0 1 _ rfl
    have kc := k0 2 _ rfl
    go_wp2_with fail
    refine (KD.out _).mono ?_
    rintro e w2 ⟨rfl, hb2⟩
    have hB2 := hB1.trans (hb2.mono hB1.size)
    have k2 : ∀ (j : Nat) v, #[Value.int .i64 b, .bool s, .bool d][j]? = some v → w2.cell? ⟨w.heap.size, j, none⟩ = some v := fun j v hv => (hb2.cell (p := ⟨w.heap.size, j, none⟩) (by dsimp only; omega)).trans (k0 j v hv)
    have l2 : ∀ (j : Nat) v, #[Value.int .i64 h, .int .i64 m, .int .i64 sc, .int .i64 f][j]? = some v → w2.cell? ⟨w.heap.size + 1, j, none⟩ = some v := fun j v hv => (hb2.cell (p := ⟨w.heap.size + 1, j, none⟩) (by dsimp only; omega)).trans (l0 j v hv)
    have hz2 : w.heap.size + 2 ≤ w2.heap.size := Nat.le_trans hz hb2.size
    clear hb2 k0 l0 ka kb kc hz hB1
    have ka := k2 0 _ rfl
    have la := l2 0 _ rfl
    have lb := l2 1 _ rfl
    have lc := l2 2 _ rfl
    have ld := l2 3 _ rfl
    have K2 := hide k2
    have L2 := hide l2
    clear k2 l2
    go_wp2_with fail
    go_loopw [31] (fun i wr => ∃ k : Nat, k ≤ 3 ∧ i = .int .i64 k ∧ Below w.heap.size w wr ∧ w.heap.size + 2 ≤ wr.heap.size ∧ (∀ (j : Nat) v, #[Value.int .i64 b, .bool s, .bool d][j]? = some v → wr.cell? ⟨w.heap.size, j, none⟩ = some v) ∧
        (∀ (j : Nat) v, #[Value.int .i64 h, .int .i64 m, .int .i64 sc, .int .i64 f][j]? = some v → wr.cell? ⟨w.heap.size + 1, j, none⟩ = some v) ∧
        (1 ≤ k → 0 ≤ h ∧ 0 ≤ m ∧ m < 60) ∧ (2 ≤ k → 0 ≤ sc ∧ sc < 60) ∧ (3 ≤ k → 0 ≤ f ∧ f < b)) (fun i _ => 3 - (intOf i).toNat)
    case atStart => exact ⟨0, by omega, rfl, hB2, hz2, K2.out, L2.out, by omega, by omega, by omega⟩
    case round =>
      obtain ⟨k, hk, rfl, hb, hsz, hk0, hl0, f1, f2, f3⟩ := hrel
      clear ka la lb lc ld K2 L2 hB2 hz2
      have ka := hk0 0 _ rfl
      have kb := hk0 1 _ rfl
      have kc := hk0 2 _ rfl
      have la := hl0 0 _ rfl
      have lb := hl0 1 _ rfl
      have lc := hl0 2 _ rfl
      have ld := hl0 3 _ rfl
      have HK := hide hk0
      have HL := hide hl0
      clear hk0 hl0
      have keep : ∀ (o : Obj), (∀ (j : Nat) v, #[Value.int .i64 b, .bool s, .bool d][j]? = some v → (wr.alloc o).cell? ⟨w.heap.size, j, none⟩ = some v) ∧ (∀ (j : Nat) v, #[Value.int .i64 h, .int .i64 m, .int .i64 sc, .int .i64 f][j]? = some v → (wr.alloc o).cell? ⟨w.heap.size + 1, j, none⟩ = some v) := fun o =>
        have hb' : Below wr.heap.size wr (wr.alloc o) := (Below.refl _ _).alloc (Nat.le_refl _) _
        ⟨fun j v hv => (hb'.cell (p := ⟨w.heap.size, j, none⟩) (by dsimp only; omega)).trans (HK.out j v hv), fun j v hv => (hb'.cell (p := ⟨w.heap.size + 1, j, none⟩) (by dsimp only; omega)).trans (HL.out j v hv)⟩
      have HKeep := hide keep
      clear keep
      have i0 := index3_0 (.int .i64 m) (.int .i64 60) (.int .i64 sc) (.int .i64 60) (.int .i64 f) (.int .i64 b) wr
      have i1 := index3_1 (.int .i64 m) (.int .i64 60) (.int .i64 sc) (.int .i64 60) (.int .i64 f) (.int .i64 b) wr
      have i2 := index3_2 (.int .i64 m) (.int .i64 60) (.int .i64 sc) (.int .i64 60) (.int .i64 f) (.int .i64 b) wr
      have hN := hb.size
      have hlt0 : w.heap.size < wr.heap.size := by omega
      have hlt1 : w.heap.size + 1 < wr.heap.size := by omega
      obtain rfl | rfl | rfl | rfl : k = 0 ∨ k = 1 ∨ k = 2 ∨ k = 3 := by omega
      · clear f1 f2 f3
        by_cases g : 0 ≤ h ∧ 0 ≤ m ∧ m < 60
        · obtain ⟨g1, g2, g3⟩ := g
          go_wp2
          go_roundw
          case rel => exact ⟨1, by omega, by go_num, hb.alloc hN _, by simp; omega, (HKeep.out _).1, (HKeep.out _).2, fun _ => ⟨g1, g2, g3⟩, by omega, by omega⟩
          case measure => simp [intOf]
        · have E' := hide (show rangeB b h m sc f = false by rw [← Bool.not_eq_true, rangeB_iff]; omega)
          by_cases g1 : h < 0
          · clear g
            go_wp2
            go_ret2
            exact ⟨by rw [E.out, E'.out]; rfl, hb.alloc hN _⟩
          · by_cases g2 : m < 0
            · clear g
              go_wp2
              go_ret2
              exact ⟨by rw [E.out, E'.out]; rfl, hb.alloc hN _⟩
            · have g3 : 60 ≤ m := by omega
              clear g
              go_wp2
              go_ret2
              exact ⟨by rw [E.out, E'.out]; rfl, hb.alloc hN _⟩
      · obtain ⟨p1, p2, p3⟩ := f1 (by omega)
        clear f1 f2 f3
        by_cases g : 0 ≤ sc ∧ sc < 60
        · obtain ⟨g1, g2⟩ := g
          go_wp2
          go_roundw
          case rel => exact ⟨2, by omega, by go_num, hb.alloc hN _, by simp; omega, (HKeep.out _).1, (HKeep.out _).2, fun _ => ⟨p1, p2, p3⟩, fun _ => ⟨g1, g2⟩, by omega⟩
          case measure => simp [intOf]
        · have E' := hide (show rangeB b h m sc f = false by rw [← Bool.not_eq_true, rangeB_iff]; omega)
          by_cases g1 : sc < 0
          · clear g
            go_wp2
            go_ret2
            exact ⟨by rw [E.out, E'.out]; rfl, hb.alloc hN _⟩
          · have g3 : 60 ≤ sc := by omega
            clear g
            go_wp2
            go_ret2
            exact ⟨by rw [E.out, E'.out]; rfl, hb.alloc hN _⟩
      · obtain ⟨p1, p2, p3⟩ := f1 (by omega)
        obtain ⟨p4, p5⟩ := f2 (by omega)
        clear f1 f2 f3
        by_cases g : 0 ≤ f ∧ f < b
        · obtain ⟨g1, g2⟩ := g
          go_wp2
          go_roundw
          case rel => exact ⟨3, by omega, by go_num, hb.alloc hN _, by simp; omega, (HKeep.out _).1, (HKeep.out _).2, fun _ => ⟨p1, p2, p3⟩, fun _ => ⟨p4, p5⟩, fun _ => ⟨g1, g2⟩⟩
          case measure => simp [intOf]
        · have E' := hide (show rangeB b h m sc f = false by rw [← Bool.not_eq_true, rangeB_iff]; omega)
          by_cases g1 : f < 0
          · clear g
            go_wp2
            go_ret2
            exact ⟨by rw [E.out, E'.out]; rfl, hb.alloc hN _⟩
          · have g3 : b ≤ f := by omega
            clear g
            go_wp2
            go_ret2
            exact ⟨by rw [E.out, E'.out]; rfl, hb.alloc hN _⟩
      · obtain ⟨p1, p2, p3⟩ := f1 (by omega)
        obtain ⟨p4, p5⟩ := f2 (by omega)
        obtain ⟨p6, p7⟩ := f3 (by omega)
        have E' := hide (show rangeB b h m sc f = true by rw [rangeB_iff]; omega)
        clear f1 f2 f3
        clear la lb lc ld ka kb kc i0 i1 i2
        have ka := HK.out 0 _ rfl
        have kb := HK.out 1 _ rfl
        have kc := HK.out 2 _ rfl
        have la := HL.out 0 _ rfl
        have lb := HL.out 1 _ rfl
        have lc := HL.out 2 _ rfl
        have ld := HL.out 3 _ rfl
        have hm : m % 10 = 0 ∨ m % 10 ≠ 0 := by omega
        by_cases hL : leftOut D m sc f = true
        · have EL := hide (show frameR b s d h m sc f = (0, 140) by rw [E.out, E'.out, if_pos rfl, if_pos hL])
          obtain ⟨q1, q2, q3⟩ : ¬ m % 10 = 0 ∧ sc = 0 ∧ f < D := by simpa [leftOut, and_assoc] using hL
          clear hL
          have g1 : (m % 10 != 0) = true := by simpa using q1
          have g2 : (sc == 0) = true := by simpa using q2
          go_wp2
          go_ret2
          exact ⟨by rw [EL.out]; rfl, hb⟩
        · have hcs : (m % 10 != 0) = false ∨ ((m % 10 != 0) = true ∧ (sc == 0) = false) ∨ ((m % 10 != 0) = true ∧ (sc == 0) = true ∧ decide (f < D) = false) := by
            cases c1 : (m % 10 != 0) <;> cases c2 : (sc == 0) <;> cases c3 : decide (f < D) <;> simp_all [leftOut]
          by_cases hh : 1073741824 ≤ h
          · have EL := hide (show frameR b s d h m sc f = (0, 2) by rw [E.out, E'.out, if_pos rfl, if_neg hL, if_pos hh])
            clear hL
            rcases hcs with c1 | ⟨c1, c2⟩ | ⟨c1, c2, c3⟩
            all_goals
              go_wp2
              go_ret2
              exact ⟨by rw [EL.out]; rfl, hb⟩
          · have EL := hide (show frameR b s d h m sc f = if numB (numOf b D h m sc f) = true then (numOf b D h m sc f, 0) else (0, 2) by rw [E.out, E'.out, if_pos rfl, if_neg hL, if_neg hh])
            have x1 : 0 ≤ (60 * (60 * h + m) + sc) * b := Int.mul_nonneg (by omega) (by omega)
            have x2 : (60 * (60 * h + m) + sc) * b ≤ 4000000000000 * 60 := Int.mul_le_mul (by omega) b2 (by omega) (by omega)
            have x3 : 0 ≤ D * (60 * h + m - (60 * h + m) / 10) := Int.mul_nonneg d1 (by omega)
            have x4 : D * (60 * h + m - (60 * h + m) / 10) ≤ 4 * 70000000000 := Int.mul_le_mul d2 (by omega) (by omega) (by omega)
            have KN' := hide (KN.out (numOf b D h m sc f))
            clear KN hL
            cases hn : numB (numOf b D h m sc f)
            all_goals
              rw [hn] at KN' EL
              clear hn
              unfold numOf at KN' EL
              rcases hcs with c1 | ⟨c1, c2⟩ | ⟨c1, c2, c3⟩
              all_goals
                go_wp2_with (go_at_call 22; refine (KN'.out _).mono ?_; rintro e w2 ⟨rfl, rfl⟩)
                go_ret2
                exact ⟨by rw [EL.out]; rfl, hb⟩
end Go.Proofs.Ytbifppncjplebaa

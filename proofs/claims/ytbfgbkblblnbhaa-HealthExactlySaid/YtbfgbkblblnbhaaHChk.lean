/-
  Layer 24: the checks.
-/
import Derived.Test.YtbfgbkblblnbhaaRows
import Derived.Test.YtbfgbkblblnbhaaHPure
namespace Go.Proofs.Ytbfgbkblblnbhaa
open Go.RowKit Go.Mine Go.Mine.H

theorem within_any (n lo hi : Int) (w : World) :
    Calls Try.prog 49 #[.int .i64 n, .int .i64 lo, .int .i64 hi] w fun e w' => e = .returned (.bool (withinB n lo hi)) ∧ w = w' := by
  go_enter Try.func49, Try.ntmps49
  go_wp2
  all_goals (go_ret; exact ⟨ret_bool (by unfold withinB; first | (simp [*]; done) | (simp; omega)), rfl⟩)
theorem isSource_any (n : Int) (w : World) :
    Calls Try.prog 48 #[.int .i64 n] w fun e w' => e = .returned (.bool (withinB n 0 15)) ∧ w = w' := by
  go_enter Try.func48, Try.ntmps48
  go_wp2_with (go_at_call 49; refine (within_any _ _ _ _).mono ?_; rintro e w' ⟨rfl, rfl⟩)
  go_ret; exact ⟨rfl, rfl⟩
theorem isTime_any (n : Int) (w : World) :
    Calls Try.prog 50 #[.int .i64 n] w fun e w' => e = .returned (.bool (withinB n 0 1099511627775)) ∧ w = w' := by
  go_enter Try.func50, Try.ntmps50
  go_wp2_with (go_at_call 49; refine (within_any _ _ _ _).mono ?_; rintro e w' ⟨rfl, rfl⟩)
  go_ret; exact ⟨rfl, rfl⟩
theorem refSource_any (n : Int) (w : World) :
    Calls Try.prog 52 #[.int .i64 n] w fun e w' => e = .returned (.bool (withinB n 0 15)) ∧ w = w' := by
  go_enter Try.func52, Try.ntmps52
  go_wp2
  all_goals (go_ret; exact ⟨ret_bool (by unfold withinB; rw [Bool.eq_iff_iff]; simp [*]; try omega), rfl⟩)
theorem refMoment_any (n : Int) (w : World) :
    Calls Try.prog 53 #[.int .i64 n] w fun e w' => e = .returned (.bool (withinB n 0 1099511627775)) ∧ w = w' := by
  go_enter Try.func53, Try.ntmps53
  go_wp2
  all_goals (go_ret; exact ⟨ret_bool (by unfold withinB; rw [Bool.eq_iff_iff]; simp [*]; try omega), rfl⟩)
theorem refQuiet_any (n : Int) (w : World) :
    Calls Try.prog 28 #[.int .i64 n] w fun e w' => e = .returned (.bool (withinB n 1 1073741824)) ∧ w = w' := by
  go_enter Try.func28, Try.ntmps28
  go_wp2
  all_goals (go_ret; exact ⟨ret_bool (by unfold withinB; rw [Bool.eq_iff_iff]; simp [*]; try omega), rfl⟩)

theorem Sl.two {w wr : World} {A : Option Addr} {c : Nat} {l : List Beat} (h : Sl bc 2 w A c l) (hb : Below w.heap.size w wr) {k : Nat} (hk : k < l.length) :
    ∃ x b off, l[k]? = some x ∧ l.drop k = x :: l.drop (k + 1) ∧ A = some ⟨b, off, none⟩ ∧ b < w.heap.size ∧ wr.cell? ⟨b, off + k * 2, none⟩ = some (.int .i64 x.1) ∧ wr.cell? ⟨b, off + k * 2 + 1, none⟩ = some (.int .i64 x.2) := by
  obtain ⟨x, b, off, hx, hd, e, hbw, hc⟩ := h.at_ hk
  exact ⟨x, b, off, hx, hd, e, hbw, (hb.cell (p := ⟨b, off + k * 2, none⟩) hbw).trans (hc 0 _ rfl), (hb.cell (p := ⟨b, off + k * 2 + 1, none⟩) hbw).trans (hc 1 _ rfl)⟩

set_option maxHeartbeats 1000000 in
theorem check_any (A : Option Addr) (c : Nat) (l : List Beat) (w : World) (hS : Sl bc 2 w A c l) :
    Calls Try.prog 19 #[.slice A l.length c] w fun e w' => e = .returned (.int .i64 (chk l)) ∧ Below w.heap.size w w' := by
  have hlc := hS.le
  have hc := hS.max
  by_cases hlen : 4096 < l.length
  · go_enter Try.func19, Try.ntmps19
    go_wp2
    go_ret
    exact ⟨ret_int (by simp [chk, hlen]), Below.refl _ _⟩
  · have hd : decide (4096 < (l.length : Int)) = false := by simp; omega
    have HC := hide (show chk l = chkGo 0 l by simp [chk, hlen])
    go_enter Try.func19, Try.ntmps19
    go_wp2
    go_loopw [3, 11] (fun last i wr => ∃ (k : Nat) (q : Int), k ≤ l.length ∧ i = .int .i64 k ∧ last = .int .i64 q ∧ chkGo q (l.drop k) = chkGo 0 l ∧ Below w.heap.size w wr)
      (fun _ i _ => l.length - (intOf i).toNat)
    case atStart => exact ⟨0, 0, Nat.zero_le _, rfl, rfl, rfl, Below.refl _ _⟩
    case round =>
      obtain ⟨k, q, hk, rfl, rfl, hq, hb⟩ := hrel
      by_cases hlt : k < l.length
      · obtain ⟨x, b, off, hx, hdr, rfl, hbw, c1, c2⟩ := Sl.two hS hb hlt
        rw [hdr, chkGo] at hq
        clear hdr hx
        by_cases h1 : withinB x.1 0 15 = true
        · by_cases h2 : withinB x.2 q 1099511627775 = true
          · rw [if_pos (by simp [okB, h1, h2])] at hq
            have H := hide hq
            clear hq
            go_wp2_with (first | (go_at_call 48; refine (isSource_any _ _).mono ?_; rintro e w' ⟨rfl, rfl⟩) | (go_at_call 49; refine (within_any _ _ _ _).mono ?_; rintro e w' ⟨rfl, rfl⟩))
            go_roundw
            case rel => exact ⟨k + 1, x.2, by omega, by go_num, rfl, H.out, (hb.alloc hb.size _)⟩
            case measure => simp [intOf]; omega
          · rw [if_neg (by simp [okB, h1, h2])] at hq
            have h2' : withinB x.2 q 1099511627775 = false := by simpa using h2
            have H := hide hq
            clear hq h2
            go_wp2_with (first | (go_at_call 48; refine (isSource_any _ _).mono ?_; rintro e w' ⟨rfl, rfl⟩) | (go_at_call 49; refine (within_any _ _ _ _).mono ?_; rintro e w' ⟨rfl, rfl⟩))
            go_ret
            exact ⟨ret_int (by rw [HC.out, ← H.out]), hb.alloc hb.size _⟩
        · rw [if_neg (by simp [okB, h1])] at hq
          have h1' : withinB x.1 0 15 = false := by simpa using h1
          have H := hide hq
          clear hq h1
          go_wp2_with (first | (go_at_call 48; refine (isSource_any _ _).mono ?_; rintro e w' ⟨rfl, rfl⟩) | (go_at_call 49; refine (within_any _ _ _ _).mono ?_; rintro e w' ⟨rfl, rfl⟩))
          go_ret
          exact ⟨ret_int (by rw [HC.out, ← H.out]), hb.alloc hb.size _⟩
      · rw [List.drop_of_length_le (by omega), chkGo] at hq
        have H := hide hq
        clear hq
        go_wp2
        go_ret
        exact ⟨ret_int (by rw [HC.out, ← H.out]), hb⟩

theorem checkF_any (A : Option Addr) (c : Nat) (l : List Beat) (fine : Bool) (w : World) (hS : Sl bc 2 w A c l) :
    Calls Try.prog 47 #[.slice A l.length c, .bool fine] w fun e w' => e = .returned (.int .i64 (if chk l = 0 then if fine = true then 0 else 1 else chk l)) ∧ Below w.heap.size w w' := by
  by_cases hz : chk l = 0
  · have hn : (chk l != 0) = false := by simp [hz]
    have hn' : (chk l == 0) = true := by simp [hz]
    have HZ := hide hz
    clear hz
    cases fine
    all_goals
      go_enter Try.func47, Try.ntmps47
      go_wp2_with (go_at_call 19; refine (check_any A c l _ hS).mono ?_; rintro e w' ⟨rfl, hb⟩)
      go_ret
      exact ⟨ret_int (by simp [HZ.out]), hb⟩
  · have hn : (chk l != 0) = true := by simp [hz]
    have HZ := hide hz
    clear hz
    go_enter Try.func47, Try.ntmps47
    go_wp2_with (go_at_call 19; refine (check_any A c l _ hS).mono ?_; rintro e w' ⟨rfl, hb⟩)
    go_ret
    exact ⟨rfl, hb⟩
end Go.Proofs.Ytbfgbkblblnbhaa

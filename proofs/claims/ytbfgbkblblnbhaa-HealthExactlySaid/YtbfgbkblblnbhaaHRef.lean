/-
  Layer 24: the reference's checks.
-/
import Derived.Test.YtbfgbkblblnbhaaHChk
import Derived.Deep.QuietTactic
import Derived.BigQuiet
namespace Go.Proofs.Ytbfgbkblblnbhaa
open Go.RowKit Go.Mine Go.Mine.H

theorem refSource_q (n : Int) (w : World) : Calls Try.prog 52 #[.int .i64 n] w fun e w' => e = .returned (.bool (withinB n 0 15)) ∧ w' = w := (refSource_any n w).mono fun _ _ h => ⟨h.1, h.2.symm⟩
theorem refMoment_q (n : Int) (w : World) : Calls Try.prog 53 #[.int .i64 n] w fun e w' => e = .returned (.bool (withinB n 0 1099511627775)) ∧ w' = w := (refMoment_any n w).mono fun _ _ h => ⟨h.1, h.2.symm⟩

def prevOf (l : List Beat) (k : Nat) : Int := match k with | 0 => 0 | k + 1 => (l.getD k (0, 0)).2

set_option maxHeartbeats 1000000 in
theorem refCheck_any (A : Option Addr) (c : Nat) (l : List Beat) (w : World) (hS : Sl bc 2 w A c l) :
    Calls Try.prog 20 #[.slice A l.length c] w fun e w' => e = .returned (.int .i64 (chk l)) ∧ Below w.heap.size w w' := by
  have hlc := hS.le
  have hc := hS.max
  by_cases hlen : 4096 < l.length
  · go_enter Try.func20, Try.ntmps20
    go_wp2
    go_ret
    exact ⟨ret_int (by simp [chk, hlen]), Below.refl _ _⟩
  · have hd : decide (4096 < (l.length : Int)) = false := by simp; omega
    have HC := hide (show chk l = chkGo 0 l by simp [chk, hlen])
    go_enter Try.func20, Try.ntmps20
    go_wp2
    go_loopw [3] (fun i wr => ∃ (k : Nat), k ≤ l.length ∧ i = .int .i64 k ∧ 0 ≤ prevOf l k ∧ chkGo (prevOf l k) (l.drop k) = chkGo 0 l ∧ Below w.heap.size w wr)
      (fun i _ => l.length - (intOf i).toNat)
    case atStart => exact ⟨0, Nat.zero_le _, rfl, by simp [prevOf], rfl, Below.refl _ _⟩
    case round =>
      obtain ⟨k, hk, rfl, h0, hq, hb⟩ := hrel
      by_cases hlt : k < l.length
      · obtain ⟨x, b, off, hx, hdr, hA, hbw, c1, c2⟩ := Sl.two hS hb hlt
        rw [hdr, chkGo] at hq
        have hp1 : prevOf l (k + 1) = x.2 := by simp [prevOf, List.getD_eq_getElem?_getD, hx]
        have HP := hide hp1
        clear hdr hp1
        by_cases h1 : withinB x.1 0 15 = true
        · by_cases h2 : withinB x.2 0 1099511627775 = true
          · have h2a := (withinB_iff _ _ _).1 h2
            have g0 : decide ((k : Int) < l.length) = true := by simp; exact hlt
            by_cases hk0 : 0 < k
            · obtain ⟨y, b', off', hy, _, hA', _, _, c4⟩ := Sl.two hS hb (show k - 1 < l.length by omega)
              subst hA
              simp only [Option.some.injEq, Addr.mk.injEq, and_true] at hA'
              obtain ⟨rfl, rfl⟩ := hA'
              have g1 : decide (0 < (k : Int)) = true := by simp; exact hk0
              have hpk : prevOf l k = y.2 := by
                obtain ⟨k', rfl⟩ : ∃ k', k = k' + 1 := ⟨k - 1, by omega⟩
                simp only [Nat.add_sub_cancel] at hy
                simp [prevOf, List.getD_eq_getElem?_getD, hy]
              rw [hpk] at hq
              have i1 : (1 : Int) ≤ k := by omega
              have i2 : (k : Int) - 1 < l.length := by omega
              by_cases h3 : x.2 < y.2
              · rw [if_neg (by rw [okB_iff]; omega)] at hq
                have g3 : decide (x.2 < y.2) = true := by simp; exact h3
                have H := hide hq
                have H0 := hide h0
                clear hq hx h0 hy hpk hS
                go_wp2_with fail
                go_quiet (first | (go_at_call 52; exact Calls.quiet_of_same (refSource_q _ _)) | (go_at_call 53; exact Calls.quiet_of_same (refMoment_q _ _)))
                go_wp2
                go_ret
                exact ⟨ret_int (by rw [HC.out, ← H.out]), below_drewN hb _⟩
              · rw [if_pos (by rw [okB_iff]; have := (withinB_iff _ _ _).1 h1; omega)] at hq
                have g3 : decide (x.2 < y.2) = false := by simp; omega
                have H := hide hq
                have H0 := hide h0
                clear hq hx h0 hy hpk hS
                go_wp2_with fail
                go_quiet (first | (go_at_call 52; exact Calls.quiet_of_same (refSource_q _ _)) | (go_at_call 53; exact Calls.quiet_of_same (refMoment_q _ _)))
                go_wp2
                go_roundw
                case rel => exact ⟨k + 1, by omega, by go_num, by rw [HP.out]; exact h2a.1, by rw [HP.out]; exact H.out, below_drewN hb _⟩
                case measure => simp [intOf]; omega
            · subst hA
              have g1 : decide (0 < (k : Int)) = false := by simp; omega
              rw [if_pos (by obtain rfl : k = 0 := by omega
                             simp [okB, h1]; exact h2)] at hq
              have H := hide hq
              have H0 := hide h0
              clear hq hx h0 hS
              go_wp2_with fail
              go_quiet (first | (go_at_call 52; exact Calls.quiet_of_same (refSource_q _ _)) | (go_at_call 53; exact Calls.quiet_of_same (refMoment_q _ _)))
              go_wp2
              go_roundw
              case rel => exact ⟨k + 1, by omega, by go_num, by rw [HP.out]; exact h2a.1, by rw [HP.out]; exact H.out, below_drewN hb _⟩
              case measure => simp [intOf]; omega
          · subst hA
            rw [if_neg (by rw [withinB_iff] at h2; rw [okB_iff]; omega)] at hq
            have h2' : withinB x.2 0 1099511627775 = false := by simpa using h2
            have H := hide hq
            have H0 := hide h0
            clear hq hx h0 h2 hS
            go_wp2_with fail
            go_quiet (first | (go_at_call 52; exact Calls.quiet_of_same (refSource_q _ _)) | (go_at_call 53; exact Calls.quiet_of_same (refMoment_q _ _)))
            go_wp2
            go_ret
            exact ⟨ret_int (by rw [HC.out, ← H.out]), below_drewN hb _⟩
        · subst hA
          rw [if_neg (by simp [okB, h1])] at hq
          have h1' : withinB x.1 0 15 = false := by simpa using h1
          have H := hide hq
          have H0 := hide h0
          clear hq hx h0 h1 hS
          go_wp2_with fail
          go_quiet (first | (go_at_call 52; exact Calls.quiet_of_same (refSource_q _ _)) | (go_at_call 53; exact Calls.quiet_of_same (refMoment_q _ _)))
          go_wp2
          go_ret
          exact ⟨ret_int (by rw [HC.out, ← H.out]), below_drewN hb _⟩
      · rw [List.drop_of_length_le (by omega), chkGo] at hq
        have H := hide hq
        clear hq
        go_wp2
        go_ret
        exact ⟨ret_int (by rw [HC.out, ← H.out]), hb⟩
end Go.Proofs.Ytbfgbkblblnbhaa

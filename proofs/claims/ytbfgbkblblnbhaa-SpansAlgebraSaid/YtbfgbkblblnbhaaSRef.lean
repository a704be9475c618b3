/-
  Layer 13, the reference: Time, Right, In, Check.
-/
import Derived.Test.YtbfgbkblblnbhaaSHas
namespace Go.Proofs.Ytbfgbkblblnbhaa
open Go.RowKit Go.Mine Go.Mine.H Go.Mine.S

def timeB (t : Int) : Bool := decide (0 ≤ t) && decide (t < 1099511627776)
theorem refTime_any (t : Int) (w : World) : Calls Try.prog 62 #[.int .i64 t] w fun e w' => e = .returned (.bool (timeB t)) ∧ w = w' := by
  unfold timeB
  by_cases h1 : 0 ≤ t
  · by_cases h2 : t < 1099511627776
    · have g1 : decide (0 ≤ t) = true := by simp [h1]
      have g2 : decide (t < 1099511627776) = true := by simp [h2]
      go_enter Try.func62, Try.ntmps62
      go_wp2
      go_ret
      exact ⟨ret_bool (by first | rfl | (rw [g1, g2]; rfl)), rfl⟩
    · have g1 : decide (0 ≤ t) = true := by simp [h1]
      have g2 : decide (t < 1099511627776) = false := by simp [h2]
      go_enter Try.func62, Try.ntmps62
      go_wp2
      go_ret
      exact ⟨ret_bool (by first | rfl | (rw [g1, g2]; rfl)), rfl⟩
  · have g1 : decide (0 ≤ t) = false := by simp [h1]
    go_enter Try.func62, Try.ntmps62
    go_wp2
    go_ret
    exact ⟨ret_bool (by first | rfl | (rw [g1]; rfl)), rfl⟩
def rgtB (x : Sp) : Bool := decide (0 ≤ x.1) && (decide (x.1 < x.2) && decide (x.2 ≤ 1099511627776))
theorem refRight_any (a b : Int) (w : World) : Calls Try.prog 64 #[.agg #[.int .i64 a, .int .i64 b]] w fun e w' => e = .returned (.bool (rgtB (a, b))) ∧ Below w.heap.size w w' := by
  unfold rgtB
  dsimp only
  cases g1 : decide (0 ≤ a)
  · go_enter Try.func64, Try.ntmps64
    go_wp2
    go_ret
    exact ⟨rfl, (Below.refl _ _).alloc (Nat.le_refl _) _⟩
  · cases g2 : decide (a < b)
    · go_enter Try.func64, Try.ntmps64
      go_wp2
      go_ret
      exact ⟨rfl, (Below.refl _ _).alloc (Nat.le_refl _) _⟩
    · cases g3 : decide (b ≤ 1099511627776)
      all_goals
        go_enter Try.func64, Try.ntmps64
        go_wp2
        go_ret
        exact ⟨rfl, (Below.refl _ _).alloc (Nat.le_refl _) _⟩

set_option maxHeartbeats 1000000 in
theorem refIn_any (A : Option Addr) (c : Nat) (l : List Sp) (t : Int) (w : World) (hS : Sl bc 2 w A c l) :
    Calls Try.prog 63 #[.slice A l.length c, .int .i64 t] w fun e w' => e = .returned (.bool (inL l t)) ∧ w = w' := by
  have hlc := hS.le
  have hc := hS.max
  go_enter Try.func63, Try.ntmps63
  go_wp2
  go_loop [5] (fun i => ∃ (k : Nat), k ≤ l.length ∧ i = .int .i64 k ∧ inL (l.drop k) t = inL l t) (fun i => l.length - (intOf i).toNat)
  case atStart => exact ⟨0, Nat.zero_le _, rfl, rfl⟩
  case round =>
    obtain ⟨k, hk, rfl, hany⟩ := hrel
    by_cases hlt : k < l.length
    · obtain ⟨x, b, off, hx, hdr, rfl, hbw, c1, c2⟩ := sl_at hS hlt
      rw [hdr, inL_cons] at hany
      clear hdr hx
      cases g1 : decide (x.1 ≤ t)
      · rw [g1, Bool.false_and, Bool.false_or] at hany
        have H := hide hany
        clear hany
        go_wp2
        go_round
        case rel => exact ⟨k + 1, by omega, by go_num, H.out⟩
        case measure => simp [intOf]; omega
      · cases g2 : decide (t < x.2)
        · rw [g1, g2, Bool.and_false, Bool.false_or] at hany
          have H := hide hany
          clear hany
          go_wp2
          go_round
          case rel => exact ⟨k + 1, by omega, by go_num, H.out⟩
          case measure => simp [intOf]; omega
        · rw [g1, g2, Bool.and_true, Bool.true_or] at hany
          have H := hide hany
          clear hany
          go_wp2
          go_ret
          exact ⟨ret_bool H.out, rfl⟩
    · rw [List.drop_of_length_le (by omega)] at hany
      have H := hide hany
      clear hany
      go_wp2
      go_ret
      exact ⟨ret_bool H.out, rfl⟩
end Go.Proofs.Ytbfgbkblblnbhaa

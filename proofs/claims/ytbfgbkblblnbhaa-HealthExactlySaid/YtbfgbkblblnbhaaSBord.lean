/-
  spans.border.
-/
import Derived.Test.YtbfgbkblblnbhaaSPure4
import Derived.Test.YtbfgbkblblnbhaaHSame2
import Derived.Test.YtbfgbkblblnbhaaPush
namespace Go.Proofs.Ytbfgbkblblnbhaa
open Go.RowKit Go.Mine Go.Mine.H Go.Mine.S

theorem border_any (A : Option Addr) (c : Nat) (l : List Sp) (i : Nat) (w : World) (hS : Sl bc 2 w A c l) (hl : l.length ≤ 4096) (hi : i ≤ 8192) :
    Calls Try.prog 72 #[.slice A l.length c, .int .i64 i] w fun e w' => e = .returned (.int .i64 (bdL l i)) ∧ w' = w := by
  have hlc := hS.le
  have hc := hS.max
  by_cases h : 2 * l.length ≤ i
  · rw [bdL_end l i h]
    have g1 : decide (2 * (l.length : Int) ≤ i) = true := by simp; omega
    go_enter Try.func72, Try.ntmps72
    go_wp2
    go_ret
    exact ⟨rfl, rfl⟩
  · have g1 : decide (2 * (l.length : Int) ≤ i) = false := by simp; omega
    have hk : i / 2 < l.length := by omega
    obtain ⟨x, b, off, hx, -, rfl, hbw, hcx⟩ := hS.at_ hk
    have f1 := hcx 0 (.int .i64 x.1) rfl
    have f2 := hcx 1 (.int .i64 x.2) rfl
    simp only [Nat.add_zero] at f1
    rw [← Nat.add_assoc] at f2
    have hk' : (i : Int) / 2 < l.length := by omega
    have hk0 : 0 ≤ (i : Int) / 2 := by omega
    have hkn : ((i : Int) / 2).toNat = i / 2 := by omega
    rcases Nat.mod_two_eq_zero_or_one i with hm | hm
    · have e : bdL l i = x.1 := by have := bdL_even hx; rwa [show 2 * (i / 2) = i by omega] at this
      rw [e]
      have g2 : ((i : Int) % 2 == 0) = true := by simp; omega
      clear hcx hx e hS
      go_enter Try.func72, Try.ntmps72
      go_wp2
      go_ret
      exact ⟨rfl, rfl⟩
    · have e : bdL l i = x.2 := by have := bdL_odd hx; rwa [show 2 * (i / 2) + 1 = i by omega] at this
      rw [e]
      have g2 : ((i : Int) % 2 == 0) = false := by simp; omega
      clear hcx hx e hS
      go_enter Try.func72, Try.ntmps72
      go_wp2
      go_ret
      exact ⟨rfl, rfl⟩
end Go.Proofs.Ytbfgbkblblnbhaa

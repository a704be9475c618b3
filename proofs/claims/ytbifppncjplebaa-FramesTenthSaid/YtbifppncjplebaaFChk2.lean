/-
  Layer 14 (frames): the check of a rate by the reference.
-/
import Derived.Test.YtbifppncjplebaaFChk
namespace Go.Proofs.Ytbifppncjplebaa
open Go.RowKit Go.Mine

theorem chkR_off (b : Int) (s d : Bool) (h : b ≠ 24 ∧ b ≠ 25 ∧ b ≠ 30 ∧ b ≠ 50 ∧ b ≠ 60) : chkR b s d = 140 := by
  obtain ⟨h1, h2, h3, h4, h5⟩ := h
  unfold chkR okR
  simp [h1, h2, h3, h4, h5]

set_option maxHeartbeats 1000000 in
theorem refCheck_any (b : Int) (s d : Bool) (w : World) :
    Calls Try.prog 15 #[.agg #[.int .i64 b, .bool s, .bool d]] w fun e w' => e = .returned (.int .i64 (chkR b s d)) ∧ Below w.heap.size w w' := by
  by_cases h24 : b = 24
  · subst h24
    cases s <;> cases d
    all_goals
      go_enter Try.func15, Try.ntmps15
      go_wp2
      go_ret
      exact ⟨rfl, (Below.refl _ _).alloc (Nat.le_refl _) _⟩
  by_cases h25 : b = 25
  · subst h25
    cases s <;> cases d
    all_goals
      go_enter Try.func15, Try.ntmps15
      go_wp2
      go_ret
      exact ⟨rfl, (Below.refl _ _).alloc (Nat.le_refl _) _⟩
  by_cases h30 : b = 30
  · subst h30
    cases s <;> cases d
    all_goals
      go_enter Try.func15, Try.ntmps15
      go_wp2
      go_ret
      exact ⟨rfl, (Below.refl _ _).alloc (Nat.le_refl _) _⟩
  by_cases h50 : b = 50
  · subst h50
    cases s <;> cases d
    all_goals
      go_enter Try.func15, Try.ntmps15
      go_wp2
      go_ret
      exact ⟨rfl, (Below.refl _ _).alloc (Nat.le_refl _) _⟩
  by_cases h60 : b = 60
  · subst h60
    cases s <;> cases d
    all_goals
      go_enter Try.func15, Try.ntmps15
      go_wp2
      go_ret
      exact ⟨rfl, (Below.refl _ _).alloc (Nat.le_refl _) _⟩
  have E := hide (chkR_off b s d ⟨h24, h25, h30, h50, h60⟩)
  have g1 : (b != 24) = true := by simpa using h24
  have g2 : (b != 25) = true := by simpa using h25
  have g3 : (b != 30) = true := by simpa using h30
  have g4 : (b != 50) = true := by simpa using h50
  have g5 : (b != 60) = true := by simpa using h60
  clear h24 h25 h30 h50 h60
  go_enter Try.func15, Try.ntmps15
  go_wp2
  go_ret
  exact ⟨by rw [E.out]; rfl, (Below.refl _ _).alloc (Nat.le_refl _) _⟩
end Go.Proofs.Ytbifppncjplebaa

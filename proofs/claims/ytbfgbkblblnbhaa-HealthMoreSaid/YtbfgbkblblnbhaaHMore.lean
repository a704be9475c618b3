/-
  Layer 24: more beats, longer silences, plainly; a beat as a law's argument.
-/
import Derived.Test.YtbfgbkblblnbhaaHealthBeatLaw
import Derived.Test.YtbfgbkblblnbhaaPush
namespace Go.Proofs.Ytbfgbkblblnbhaa
open Go.RowKit Go.Mine Go.Mine.H

theorem isIn_longer {l : List Beat} {n q m t : Int} (h : q ≤ m) (hi : isIn l n q t = true) : isIn l n m t = true := by
  unfold isIn at hi ⊢
  rw [List.any_eq_true] at hi ⊢
  obtain ⟨x, hx, h1⟩ := hi
  refine ⟨x, hx, ?_⟩
  simp only [Bool.and_eq_true, decide_eq_true_eq] at h1 ⊢
  exact ⟨h1.1, h1.2.1, by omega⟩
theorem isIn_snoc (l : List Beat) (x : Beat) (n q t : Int) : isIn (l ++ [x]) n q t = (isIn l n q t || ((x.1 == n) && (decide (x.2 ≤ t) && decide (t - q < x.2)))) := by
  unfold isIn
  rw [List.any_append]; simp
theorem isIn_more {l : List Beat} {x : Beat} {n q t : Int} (hi : isIn l n q t = true) : isIn (l ++ [x]) n q t = true := by rw [isIn_snoc, hi]; rfl
theorem isIn_other {l : List Beat} {x : Beat} {n q t : Int} (h : x.1 ≠ n) : isIn (l ++ [x]) n q t = isIn l n q t := by rw [isIn_snoc]; simp [h]
end Go.Proofs.Ytbfgbkblblnbhaa

/-
  deadlines: what the statements say, plainly.
-/
import Derived.Test.YtklndmnhhakmiaaBM6
import Derived.Test.YtklndmnhhakmiaaDSane
namespace Go.Proofs.Ytklndmnhhakmiaa
open Go.RowKit Go.Mine Go.Mine.B
theorem fewD_parts {b : List Bu} {l : List Tr} (h : fewD b l = true) : b.length ≤ 32 ∧ l.length ≤ 40 ∧ chk 400 b l = 0 ∧ chkB b l = true := by
  simp only [fewD, Bool.and_eq_true, decide_eq_true_eq] at h
  exact ⟨h.1, h.2.1, h.2.2, (chk_zero' h.2.2).1⟩
end Go.Proofs.Ytklndmnhhakmiaa

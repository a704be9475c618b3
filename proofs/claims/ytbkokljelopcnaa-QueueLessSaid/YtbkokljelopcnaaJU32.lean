/-
  An argument of the kind uint32.
-/
import Derived.Test.YtbkokljelopcnaaLift2
namespace Go.Proofs.Ytbkokljelopcnaa
open Go.RowKit Go.Mine
theorem u32_b {n : Int} (h : (Lit.int .u32 n).wf = true) : 0 ≤ n ∧ n < 4294967296 := by
  simp only [Lit.wf, Bool.and_eq_true, decide_eq_true_eq] at h
  have h1 : (0 : Int) ≤ n := h.1
  have h2 : n ≤ 4294967295 := h.2
  omega
end Go.Proofs.Ytbkokljelopcnaa

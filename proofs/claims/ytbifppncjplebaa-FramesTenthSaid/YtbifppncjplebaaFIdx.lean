/-
  Layer 14 (frames): an element of an array of three pairs.
-/
import Derived.Test.YtbifppncjplebaaFTime
namespace Go.Proofs.Ytbifppncjplebaa
open Go.RowKit Go.Mine
theorem index3_0 (a1 a2 a3 a4 a5 a6 : Value) (w : World) : (Instr.index 50 (.agg #[a1, a2, a3, a4, a5, a6]) (.int .i64 0)).run Try.prog w = .ok (.agg #[a1, a2]) w := by
  simp [Instr.index, run_underlying Try.underlying50, go_sem, Try.sizeOf49, Try.isAgg49]
theorem index3_1 (a1 a2 a3 a4 a5 a6 : Value) (w : World) : (Instr.index 50 (.agg #[a1, a2, a3, a4, a5, a6]) (.int .i64 1)).run Try.prog w = .ok (.agg #[a3, a4]) w := by
  simp [Instr.index, run_underlying Try.underlying50, go_sem, Try.sizeOf49, Try.isAgg49]
theorem index3_2 (a1 a2 a3 a4 a5 a6 : Value) (w : World) : (Instr.index 50 (.agg #[a1, a2, a3, a4, a5, a6]) (.int .i64 2)).run Try.prog w = .ok (.agg #[a5, a6]) w := by
  simp [Instr.index, run_underlying Try.underlying50, go_sem, Try.sizeOf49, Try.isAgg49]
end Go.Proofs.Ytbifppncjplebaa

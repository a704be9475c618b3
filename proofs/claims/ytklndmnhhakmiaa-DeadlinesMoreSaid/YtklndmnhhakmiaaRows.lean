/-
  No cell of these rows narrows 'for every input' (looked for: loops, veiled, ifaces, maps, wideKeys, modest, calm, conditions, laid).
  DERIVED. THE GIVEN ROWS OF THIS SEAT. 11 by the template 'for every input the law returns true; each argument reads behind the call as it read before'; 0 by the template 'total and deterministic' (their statements: YtklndmnhhakmiaaTotals.lean).
  GIVEN WITH THE SEED: the statements are not yours to turn. If you find one false, say at which input.
  Laid BY PROGRAM, IN A SANDBOX (cutbox-rows.mjs): the forced cells as the released guide's own fill.sh prints them over the translation ea46b36fbbb93b01… (all of the seat's roots in one cut). By AI agents, Wed Nov 11 2026. No macro, syntax, notation, axiom, sorry.
-/
import Derived.Test.YtklndmnhhakmiaaChecked
import GoSem.Claim
import GoSem.ClaimJoined
import GoSem.ClaimMapViews
import Derived.JoinedTies
import Derived.KernelRfl
namespace Go.Proofs.Ytklndmnhhakmiaa
/- THE CELL 'sum', in the pinned program and in every row, IS THE sha256 OF THE DUMP (.gsa) THAT YtklndmnhhakmiaaProg.lean LOADS. Nothing in Lean hashes anything: it is a label: what it is worth is what the hold of that sum in a sandbox is worth. -/
noncomputable def Try.pinned : Pinned := { name := "ytklndmnhhakmiaa", sum := "ea46b36fbbb93b01670b0a6a2cf0868789b7422535de7bdb4cd72865f988fdab", checked := Try.checked }
namespace Rows
def none {H : Type} : Left H := { results := [], args := [] }

/-- 'hansardlaw40.BudgetsSpec': WHATEVER THE INPUT: true; the input reads as it did. -/
def budgetsSpecSpec : ChangeSpec := { name := "budgetsSpec", fn := fun _ => fun
  | [d1, d2, d3, d4] => { results := [.lit (.bool true)], args := [d1, d2, d3, d4] }
  | _ => none }
def budgetsSpecRow : OpenClaim := { program := "ytklndmnhhakmiaa", sum := "ea46b36fbbb93b01670b0a6a2cf0868789b7422535de7bdb4cd72865f988fdab", func := "hansard/hansardlaw40.BudgetsSpec", spec := "budgetsSpec", unfollowed := true, recurses := true, apart := false }
def BudgetsSpecSaid : Prop := budgetsSpecRow.holds Try.pinned (OpenSpec.ofChange budgetsSpecSpec)

/-- ITS FALSE NEIGHBOUR: 'it returns false'. Refute it at one input. -/
def budgetsSpecWrong : ChangeSpec := { name := "budgetsSpec", fn := fun _ => fun
  | [d1, d2, d3, d4] => { results := [.lit (.bool false)], args := [d1, d2, d3, d4] }
  | _ => none }
def BudgetsSpecWrongFalsely : Prop := budgetsSpecRow.holds Try.pinned (OpenSpec.ofChange budgetsSpecWrong)

/-- 'hansardlaw40.BudgetsStandingSpec': WHATEVER THE INPUT: true; the input reads as it did. -/
def budgetsStandingSpecSpec : ChangeSpec := { name := "budgetsStandingSpec", fn := fun _ => fun
  | [d1, d2, d3, d4] => { results := [.lit (.bool true)], args := [d1, d2, d3, d4] }
  | _ => none }
def budgetsStandingSpecRow : OpenClaim := { program := "ytklndmnhhakmiaa", sum := "ea46b36fbbb93b01670b0a6a2cf0868789b7422535de7bdb4cd72865f988fdab", func := "hansard/hansardlaw40.BudgetsStandingSpec", spec := "budgetsStandingSpec", unfollowed := true, recurses := true, apart := false }
def BudgetsStandingSpecSaid : Prop := budgetsStandingSpecRow.holds Try.pinned (OpenSpec.ofChange budgetsStandingSpecSpec)

/-- ITS FALSE NEIGHBOUR: 'it returns false'. Refute it at one input. -/
def budgetsStandingSpecWrong : ChangeSpec := { name := "budgetsStandingSpec", fn := fun _ => fun
  | [d1, d2, d3, d4] => { results := [.lit (.bool false)], args := [d1, d2, d3, d4] }
  | _ => none }
def BudgetsStandingSpecWrongFalsely : Prop := budgetsStandingSpecRow.holds Try.pinned (OpenSpec.ofChange budgetsStandingSpecWrong)

/-- 'hansardlaw40.BudgetsKept': WHATEVER THE INPUT: true; the input reads as it did. -/
def budgetsKeptSpec : ChangeSpec := { name := "budgetsKept", fn := fun _ => fun
  | [d1, d2, d3, d4] => { results := [.lit (.bool true)], args := [d1, d2, d3, d4] }
  | _ => none }
def budgetsKeptRow : OpenClaim := { program := "ytklndmnhhakmiaa", sum := "ea46b36fbbb93b01670b0a6a2cf0868789b7422535de7bdb4cd72865f988fdab", func := "hansard/hansardlaw40.BudgetsKept", spec := "budgetsKept", unfollowed := true, recurses := true, apart := false }
def BudgetsKeptSaid : Prop := budgetsKeptRow.holds Try.pinned (OpenSpec.ofChange budgetsKeptSpec)

/-- ITS FALSE NEIGHBOUR: 'it returns false'. Refute it at one input. -/
def budgetsKeptWrong : ChangeSpec := { name := "budgetsKept", fn := fun _ => fun
  | [d1, d2, d3, d4] => { results := [.lit (.bool false)], args := [d1, d2, d3, d4] }
  | _ => none }
def BudgetsKeptWrongFalsely : Prop := budgetsKeptRow.holds Try.pinned (OpenSpec.ofChange budgetsKeptWrong)

/-- 'hansardlaw40.BudgetsStages': WHATEVER THE INPUT: true; the input reads as it did. -/
def budgetsStagesSpec : ChangeSpec := { name := "budgetsStages", fn := fun _ => fun
  | [d1, d2, d3, d4] => { results := [.lit (.bool true)], args := [d1, d2, d3, d4] }
  | _ => none }
def budgetsStagesRow : OpenClaim := { program := "ytklndmnhhakmiaa", sum := "ea46b36fbbb93b01670b0a6a2cf0868789b7422535de7bdb4cd72865f988fdab", func := "hansard/hansardlaw40.BudgetsStages", spec := "budgetsStages", unfollowed := true, recurses := true, apart := false }
def BudgetsStagesSaid : Prop := budgetsStagesRow.holds Try.pinned (OpenSpec.ofChange budgetsStagesSpec)

/-- ITS FALSE NEIGHBOUR: 'it returns false'. Refute it at one input. -/
def budgetsStagesWrong : ChangeSpec := { name := "budgetsStages", fn := fun _ => fun
  | [d1, d2, d3, d4] => { results := [.lit (.bool false)], args := [d1, d2, d3, d4] }
  | _ => none }
def BudgetsStagesWrongFalsely : Prop := budgetsStagesRow.holds Try.pinned (OpenSpec.ofChange budgetsStagesWrong)

/-- 'hansardlaw40.BudgetsThen': WHATEVER THE INPUT: true; the input reads as it did. -/
def budgetsThenSpec : ChangeSpec := { name := "budgetsThen", fn := fun _ => fun
  | [d1, d2, d3, d4, d5] => { results := [.lit (.bool true)], args := [d1, d2, d3, d4, d5] }
  | _ => none }
def budgetsThenRow : OpenClaim := { program := "ytklndmnhhakmiaa", sum := "ea46b36fbbb93b01670b0a6a2cf0868789b7422535de7bdb4cd72865f988fdab", func := "hansard/hansardlaw40.BudgetsThen", spec := "budgetsThen", unfollowed := true, recurses := true, apart := false }
def BudgetsThenSaid : Prop := budgetsThenRow.holds Try.pinned (OpenSpec.ofChange budgetsThenSpec)

/-- ITS FALSE NEIGHBOUR: 'it returns false'. Refute it at one input. -/
def budgetsThenWrong : ChangeSpec := { name := "budgetsThen", fn := fun _ => fun
  | [d1, d2, d3, d4, d5] => { results := [.lit (.bool false)], args := [d1, d2, d3, d4, d5] }
  | _ => none }
def BudgetsThenWrongFalsely : Prop := budgetsThenRow.holds Try.pinned (OpenSpec.ofChange budgetsThenWrong)

/-- 'hansardlaw40.BudgetsPath': WHATEVER THE INPUT: true; the input reads as it did. -/
def budgetsPathSpec : ChangeSpec := { name := "budgetsPath", fn := fun _ => fun
  | [d1, d2] => { results := [.lit (.bool true)], args := [d1, d2] }
  | _ => none }
def budgetsPathRow : OpenClaim := { program := "ytklndmnhhakmiaa", sum := "ea46b36fbbb93b01670b0a6a2cf0868789b7422535de7bdb4cd72865f988fdab", func := "hansard/hansardlaw40.BudgetsPath", spec := "budgetsPath", unfollowed := true, recurses := true, apart := false }
def BudgetsPathSaid : Prop := budgetsPathRow.holds Try.pinned (OpenSpec.ofChange budgetsPathSpec)

/-- ITS FALSE NEIGHBOUR: 'it returns false'. Refute it at one input. -/
def budgetsPathWrong : ChangeSpec := { name := "budgetsPath", fn := fun _ => fun
  | [d1, d2] => { results := [.lit (.bool false)], args := [d1, d2] }
  | _ => none }
def BudgetsPathWrongFalsely : Prop := budgetsPathRow.holds Try.pinned (OpenSpec.ofChange budgetsPathWrong)

/-- 'hansardlaw41.DeadlinesSpec': WHATEVER THE INPUT: true; the input reads as it did. -/
def deadlinesSpecSpec : ChangeSpec := { name := "deadlinesSpec", fn := fun _ => fun
  | [d1, d2, d3, d4, d5, d6, d7] => { results := [.lit (.bool true)], args := [d1, d2, d3, d4, d5, d6, d7] }
  | _ => none }
def deadlinesSpecRow : OpenClaim := { program := "ytklndmnhhakmiaa", sum := "ea46b36fbbb93b01670b0a6a2cf0868789b7422535de7bdb4cd72865f988fdab", func := "hansard/hansardlaw41.DeadlinesSpec", spec := "deadlinesSpec", unfollowed := true, recurses := true, apart := false }
def DeadlinesSpecSaid : Prop := deadlinesSpecRow.holds Try.pinned (OpenSpec.ofChange deadlinesSpecSpec)

/-- ITS FALSE NEIGHBOUR: 'it returns false'. Refute it at one input. -/
def deadlinesSpecWrong : ChangeSpec := { name := "deadlinesSpec", fn := fun _ => fun
  | [d1, d2, d3, d4, d5, d6, d7] => { results := [.lit (.bool false)], args := [d1, d2, d3, d4, d5, d6, d7] }
  | _ => none }
def DeadlinesSpecWrongFalsely : Prop := deadlinesSpecRow.holds Try.pinned (OpenSpec.ofChange deadlinesSpecWrong)

/-- 'hansardlaw41.DeadlinesLater': WHATEVER THE INPUT: true; the input reads as it did. -/
def deadlinesLaterSpec : ChangeSpec := { name := "deadlinesLater", fn := fun _ => fun
  | [d1, d2, d3, d4, d5] => { results := [.lit (.bool true)], args := [d1, d2, d3, d4, d5] }
  | _ => none }
def deadlinesLaterRow : OpenClaim := { program := "ytklndmnhhakmiaa", sum := "ea46b36fbbb93b01670b0a6a2cf0868789b7422535de7bdb4cd72865f988fdab", func := "hansard/hansardlaw41.DeadlinesLater", spec := "deadlinesLater", unfollowed := true, recurses := true, apart := false }
def DeadlinesLaterSaid : Prop := deadlinesLaterRow.holds Try.pinned (OpenSpec.ofChange deadlinesLaterSpec)

/-- ITS FALSE NEIGHBOUR: 'it returns false'. Refute it at one input. -/
def deadlinesLaterWrong : ChangeSpec := { name := "deadlinesLater", fn := fun _ => fun
  | [d1, d2, d3, d4, d5] => { results := [.lit (.bool false)], args := [d1, d2, d3, d4, d5] }
  | _ => none }
def DeadlinesLaterWrongFalsely : Prop := deadlinesLaterRow.holds Try.pinned (OpenSpec.ofChange deadlinesLaterWrong)

/-- 'hansardlaw41.DeadlinesMore': WHATEVER THE INPUT: true; the input reads as it did. -/
def deadlinesMoreSpec : ChangeSpec := { name := "deadlinesMore", fn := fun _ => fun
  | [d1, d2, d3, d4, d5] => { results := [.lit (.bool true)], args := [d1, d2, d3, d4, d5] }
  | _ => none }
def deadlinesMoreRow : OpenClaim := { program := "ytklndmnhhakmiaa", sum := "ea46b36fbbb93b01670b0a6a2cf0868789b7422535de7bdb4cd72865f988fdab", func := "hansard/hansardlaw41.DeadlinesMore", spec := "deadlinesMore", unfollowed := true, recurses := true, apart := false }
def DeadlinesMoreSaid : Prop := deadlinesMoreRow.holds Try.pinned (OpenSpec.ofChange deadlinesMoreSpec)

/-- ITS FALSE NEIGHBOUR: 'it returns false'. Refute it at one input. -/
def deadlinesMoreWrong : ChangeSpec := { name := "deadlinesMore", fn := fun _ => fun
  | [d1, d2, d3, d4, d5] => { results := [.lit (.bool false)], args := [d1, d2, d3, d4, d5] }
  | _ => none }
def DeadlinesMoreWrongFalsely : Prop := deadlinesMoreRow.holds Try.pinned (OpenSpec.ofChange deadlinesMoreWrong)

/-- 'hansardlaw41.DeadlinesLeft': WHATEVER THE INPUT: true; the input reads as it did. -/
def deadlinesLeftSpec : ChangeSpec := { name := "deadlinesLeft", fn := fun _ => fun
  | [d1, d2, d3, d4, d5, d6, d7, d8] => { results := [.lit (.bool true)], args := [d1, d2, d3, d4, d5, d6, d7, d8] }
  | _ => none }
def deadlinesLeftRow : OpenClaim := { program := "ytklndmnhhakmiaa", sum := "ea46b36fbbb93b01670b0a6a2cf0868789b7422535de7bdb4cd72865f988fdab", func := "hansard/hansardlaw41.DeadlinesLeft", spec := "deadlinesLeft", unfollowed := true, recurses := true, apart := false }
def DeadlinesLeftSaid : Prop := deadlinesLeftRow.holds Try.pinned (OpenSpec.ofChange deadlinesLeftSpec)

/-- ITS FALSE NEIGHBOUR: 'it returns false'. Refute it at one input. -/
def deadlinesLeftWrong : ChangeSpec := { name := "deadlinesLeft", fn := fun _ => fun
  | [d1, d2, d3, d4, d5, d6, d7, d8] => { results := [.lit (.bool false)], args := [d1, d2, d3, d4, d5, d6, d7, d8] }
  | _ => none }
def DeadlinesLeftWrongFalsely : Prop := deadlinesLeftRow.holds Try.pinned (OpenSpec.ofChange deadlinesLeftWrong)

/-- 'hansardlaw41.DeadlinesTrades': WHATEVER THE INPUT: true; the input reads as it did. -/
def deadlinesTradesSpec : ChangeSpec := { name := "deadlinesTrades", fn := fun _ => fun
  | [d1, d2, d3, d4] => { results := [.lit (.bool true)], args := [d1, d2, d3, d4] }
  | _ => none }
def deadlinesTradesRow : OpenClaim := { program := "ytklndmnhhakmiaa", sum := "ea46b36fbbb93b01670b0a6a2cf0868789b7422535de7bdb4cd72865f988fdab", func := "hansard/hansardlaw41.DeadlinesTrades", spec := "deadlinesTrades", unfollowed := true, recurses := true, apart := false }
def DeadlinesTradesSaid : Prop := deadlinesTradesRow.holds Try.pinned (OpenSpec.ofChange deadlinesTradesSpec)

/-- ITS FALSE NEIGHBOUR: 'it returns false'. Refute it at one input. -/
def deadlinesTradesWrong : ChangeSpec := { name := "deadlinesTrades", fn := fun _ => fun
  | [d1, d2, d3, d4] => { results := [.lit (.bool false)], args := [d1, d2, d3, d4] }
  | _ => none }
def DeadlinesTradesWrongFalsely : Prop := deadlinesTradesRow.holds Try.pinned (OpenSpec.ofChange deadlinesTradesWrong)

/- THE SECOND FORM. 'bulk': how many values and letters a reading holds, each counted each time it is reached (what is shared counts as often as it is met; a slice's spare places count too). A statement '..UptoSaid' is the law's where the arguments, and the package variables that the reading takes, are together of bulk at most 1048576: NARROWER than '..Said'. Prove '..Said' where nothing that the law and all that it calls make is longer than what came in: it says more and counts as full. Else prove '..UptoSaid'. A law counts once. -/
mutual
def uptoBulk {H : Type} : DataW H → Nat
  | .lit (.string bytes) => bytes.length + 1
  | .lit _ => 1
  | .nil => 1
  | .ptr d => uptoBulk d + 1
  | .slice elems spare => uptoBulkAll elems + uptoBulkAll spare + 1
  | .agg parts => uptoBulkAll parts + 1
  | .iface _ d => uptoBulk d + 1
  | .map entries => uptoBulkEntries entries + 1
  | .held _ => 1
def uptoBulkAll {H : Type} : List (DataW H) → Nat
  | [] => 0
  | d :: r => uptoBulk d + uptoBulkAll r
def uptoBulkEntries {H : Type} : List (Lit × DataW H) → Nat
  | [] => 0
  | x :: r => uptoBulkEntry x + uptoBulkEntries r
def uptoBulkEntry {H : Type} : Lit × DataW H → Nat
  | (.string bytes, d) => bytes.length + uptoBulk d + 1
  | (_, d) => uptoBulk d + 1
 end
def uptoSmall : (H : Type) → List (DataW H) → Bool := fun _ ds => decide (uptoBulkAll ds ≤ 1048576)
def OpenSpec.upto (s : _root_.Go.ChangeSpec) : _root_.Go.OpenSpec := { _root_.Go.OpenSpec.ofChange s with cond := some uptoSmall }

/-- 'hansardlaw40.BudgetsSpec', WHERE WHAT IT READS IS OF BULK AT MOST 1048576: true; the input reads as it did. -/
def budgetsSpecUptoRow : OpenClaim := { program := "ytklndmnhhakmiaa", sum := "ea46b36fbbb93b01670b0a6a2cf0868789b7422535de7bdb4cd72865f988fdab", func := "hansard/hansardlaw40.BudgetsSpec", spec := "budgetsSpec", unfollowed := true, recurses := true, apart := false, narrowed := true }
def BudgetsSpecUptoSaid : Prop := budgetsSpecUptoRow.holds Try.pinned (OpenSpec.upto budgetsSpecSpec)

/-- 'hansardlaw40.BudgetsStandingSpec', WHERE WHAT IT READS IS OF BULK AT MOST 1048576: true; the input reads as it did. -/
def budgetsStandingSpecUptoRow : OpenClaim := { program := "ytklndmnhhakmiaa", sum := "ea46b36fbbb93b01670b0a6a2cf0868789b7422535de7bdb4cd72865f988fdab", func := "hansard/hansardlaw40.BudgetsStandingSpec", spec := "budgetsStandingSpec", unfollowed := true, recurses := true, apart := false, narrowed := true }
def BudgetsStandingSpecUptoSaid : Prop := budgetsStandingSpecUptoRow.holds Try.pinned (OpenSpec.upto budgetsStandingSpecSpec)

/-- 'hansardlaw40.BudgetsKept', WHERE WHAT IT READS IS OF BULK AT MOST 1048576: true; the input reads as it did. -/
def budgetsKeptUptoRow : OpenClaim := { program := "ytklndmnhhakmiaa", sum := "ea46b36fbbb93b01670b0a6a2cf0868789b7422535de7bdb4cd72865f988fdab", func := "hansard/hansardlaw40.BudgetsKept", spec := "budgetsKept", unfollowed := true, recurses := true, apart := false, narrowed := true }
def BudgetsKeptUptoSaid : Prop := budgetsKeptUptoRow.holds Try.pinned (OpenSpec.upto budgetsKeptSpec)

/-- 'hansardlaw40.BudgetsStages', WHERE WHAT IT READS IS OF BULK AT MOST 1048576: true; the input reads as it did. -/
def budgetsStagesUptoRow : OpenClaim := { program := "ytklndmnhhakmiaa", sum := "ea46b36fbbb93b01670b0a6a2cf0868789b7422535de7bdb4cd72865f988fdab", func := "hansard/hansardlaw40.BudgetsStages", spec := "budgetsStages", unfollowed := true, recurses := true, apart := false, narrowed := true }
def BudgetsStagesUptoSaid : Prop := budgetsStagesUptoRow.holds Try.pinned (OpenSpec.upto budgetsStagesSpec)

/-- 'hansardlaw40.BudgetsThen', WHERE WHAT IT READS IS OF BULK AT MOST 1048576: true; the input reads as it did. -/
def budgetsThenUptoRow : OpenClaim := { program := "ytklndmnhhakmiaa", sum := "ea46b36fbbb93b01670b0a6a2cf0868789b7422535de7bdb4cd72865f988fdab", func := "hansard/hansardlaw40.BudgetsThen", spec := "budgetsThen", unfollowed := true, recurses := true, apart := false, narrowed := true }
def BudgetsThenUptoSaid : Prop := budgetsThenUptoRow.holds Try.pinned (OpenSpec.upto budgetsThenSpec)

/-- 'hansardlaw40.BudgetsPath', WHERE WHAT IT READS IS OF BULK AT MOST 1048576: true; the input reads as it did. -/
def budgetsPathUptoRow : OpenClaim := { program := "ytklndmnhhakmiaa", sum := "ea46b36fbbb93b01670b0a6a2cf0868789b7422535de7bdb4cd72865f988fdab", func := "hansard/hansardlaw40.BudgetsPath", spec := "budgetsPath", unfollowed := true, recurses := true, apart := false, narrowed := true }
def BudgetsPathUptoSaid : Prop := budgetsPathUptoRow.holds Try.pinned (OpenSpec.upto budgetsPathSpec)

/-- 'hansardlaw41.DeadlinesSpec', WHERE WHAT IT READS IS OF BULK AT MOST 1048576: true; the input reads as it did. -/
def deadlinesSpecUptoRow : OpenClaim := { program := "ytklndmnhhakmiaa", sum := "ea46b36fbbb93b01670b0a6a2cf0868789b7422535de7bdb4cd72865f988fdab", func := "hansard/hansardlaw41.DeadlinesSpec", spec := "deadlinesSpec", unfollowed := true, recurses := true, apart := false, narrowed := true }
def DeadlinesSpecUptoSaid : Prop := deadlinesSpecUptoRow.holds Try.pinned (OpenSpec.upto deadlinesSpecSpec)

/-- 'hansardlaw41.DeadlinesLater', WHERE WHAT IT READS IS OF BULK AT MOST 1048576: true; the input reads as it did. -/
def deadlinesLaterUptoRow : OpenClaim := { program := "ytklndmnhhakmiaa", sum := "ea46b36fbbb93b01670b0a6a2cf0868789b7422535de7bdb4cd72865f988fdab", func := "hansard/hansardlaw41.DeadlinesLater", spec := "deadlinesLater", unfollowed := true, recurses := true, apart := false, narrowed := true }
def DeadlinesLaterUptoSaid : Prop := deadlinesLaterUptoRow.holds Try.pinned (OpenSpec.upto deadlinesLaterSpec)

/-- 'hansardlaw41.DeadlinesMore', WHERE WHAT IT READS IS OF BULK AT MOST 1048576: true; the input reads as it did. -/
def deadlinesMoreUptoRow : OpenClaim := { program := "ytklndmnhhakmiaa", sum := "ea46b36fbbb93b01670b0a6a2cf0868789b7422535de7bdb4cd72865f988fdab", func := "hansard/hansardlaw41.DeadlinesMore", spec := "deadlinesMore", unfollowed := true, recurses := true, apart := false, narrowed := true }
def DeadlinesMoreUptoSaid : Prop := deadlinesMoreUptoRow.holds Try.pinned (OpenSpec.upto deadlinesMoreSpec)

/-- 'hansardlaw41.DeadlinesLeft', WHERE WHAT IT READS IS OF BULK AT MOST 1048576: true; the input reads as it did. -/
def deadlinesLeftUptoRow : OpenClaim := { program := "ytklndmnhhakmiaa", sum := "ea46b36fbbb93b01670b0a6a2cf0868789b7422535de7bdb4cd72865f988fdab", func := "hansard/hansardlaw41.DeadlinesLeft", spec := "deadlinesLeft", unfollowed := true, recurses := true, apart := false, narrowed := true }
def DeadlinesLeftUptoSaid : Prop := deadlinesLeftUptoRow.holds Try.pinned (OpenSpec.upto deadlinesLeftSpec)

/-- 'hansardlaw41.DeadlinesTrades', WHERE WHAT IT READS IS OF BULK AT MOST 1048576: true; the input reads as it did. -/
def deadlinesTradesUptoRow : OpenClaim := { program := "ytklndmnhhakmiaa", sum := "ea46b36fbbb93b01670b0a6a2cf0868789b7422535de7bdb4cd72865f988fdab", func := "hansard/hansardlaw41.DeadlinesTrades", spec := "deadlinesTrades", unfollowed := true, recurses := true, apart := false, narrowed := true }
def DeadlinesTradesUptoSaid : Prop := deadlinesTradesUptoRow.holds Try.pinned (OpenSpec.upto deadlinesTradesSpec)

end Rows
end Go.Proofs.Ytklndmnhhakmiaa

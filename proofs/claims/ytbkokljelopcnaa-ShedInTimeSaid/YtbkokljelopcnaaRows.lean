/-
  No cell of these rows narrows 'for every input' (looked for: loops, veiled, ifaces, maps, wideKeys, modest, calm, conditions, laid).
  DERIVED. THE GIVEN ROWS OF THIS SEAT. 12 by the template 'for every input the law returns true; each argument reads behind the call as it read before'; 0 by the template 'total and deterministic' (their statements: YtbkokljelopcnaaTotals.lean).
  GIVEN WITH THE SEED: the statements are not yours to turn. If you find one false, say at which input.
  Laid BY PROGRAM, IN A SANDBOX (cutbox-rows.mjs): the forced cells as the released guide's own fill.sh prints them over the translation ad0cc6976d9b58d2… (all of the seat's roots in one cut). By AI agents, Wed Nov 11 2026. No macro, syntax, notation, axiom, sorry.
-/
import Derived.Test.YtbkokljelopcnaaChecked
import GoSem.Claim
import GoSem.ClaimJoined
import GoSem.ClaimMapViews
import Derived.JoinedTies
import Derived.KernelRfl
namespace Go.Proofs.Ytbkokljelopcnaa
/- THE CELL 'sum', in the pinned program and in every row, IS THE sha256 OF THE DUMP (.gsa) THAT YtbkokljelopcnaaProg.lean LOADS. Nothing in Lean hashes anything: it is a label: what it is worth is what the hold of that sum in a sandbox is worth. -/
noncomputable def Try.pinned : Pinned := { name := "ytbkokljelopcnaa", sum := "ad0cc6976d9b58d2905bf596a0f3edaba75b2f8247d4aa1c2377086b4265291d", checked := Try.checked }
namespace Rows
def none {H : Type} : Left H := { results := [], args := [] }

/-- 'hansardlaw42.QueueDenySpec': WHATEVER THE INPUT: true; the input reads as it did. -/
def queueDenySpecSpec : ChangeSpec := { name := "queueDenySpec", fn := fun _ => fun
  | [d1, d2] => { results := [.lit (.bool true)], args := [d1, d2] }
  | _ => none }
def queueDenySpecRow : OpenClaim := { program := "ytbkokljelopcnaa", sum := "ad0cc6976d9b58d2905bf596a0f3edaba75b2f8247d4aa1c2377086b4265291d", func := "hansard/hansardlaw42.QueueDenySpec", spec := "queueDenySpec", unfollowed := true, recurses := true, apart := false }
def QueueDenySpecSaid : Prop := queueDenySpecRow.holds Try.pinned (OpenSpec.ofChange queueDenySpecSpec)

/-- ITS FALSE NEIGHBOUR: 'it returns false'. Refute it at one input. -/
def queueDenySpecWrong : ChangeSpec := { name := "queueDenySpec", fn := fun _ => fun
  | [d1, d2] => { results := [.lit (.bool false)], args := [d1, d2] }
  | _ => none }
def QueueDenySpecWrongFalsely : Prop := queueDenySpecRow.holds Try.pinned (OpenSpec.ofChange queueDenySpecWrong)

/-- 'hansardlaw42.QueueFirst': WHATEVER THE INPUT: true; the input reads as it did. -/
def queueFirstSpec : ChangeSpec := { name := "queueFirst", fn := fun _ => fun
  | [d] => { results := [.lit (.bool true)], args := [d] }
  | _ => none }
def queueFirstRow : OpenClaim := { program := "ytbkokljelopcnaa", sum := "ad0cc6976d9b58d2905bf596a0f3edaba75b2f8247d4aa1c2377086b4265291d", func := "hansard/hansardlaw42.QueueFirst", spec := "queueFirst", unfollowed := true, recurses := true, apart := false }
def QueueFirstSaid : Prop := queueFirstRow.holds Try.pinned (OpenSpec.ofChange queueFirstSpec)

/-- ITS FALSE NEIGHBOUR: 'it returns false'. Refute it at one input. -/
def queueFirstWrong : ChangeSpec := { name := "queueFirst", fn := fun _ => fun
  | [d] => { results := [.lit (.bool false)], args := [d] }
  | _ => none }
def QueueFirstWrongFalsely : Prop := queueFirstRow.holds Try.pinned (OpenSpec.ofChange queueFirstWrong)

/-- 'hansardlaw42.QueueLess': WHATEVER THE INPUT: true; the input reads as it did. -/
def queueLessSpec : ChangeSpec := { name := "queueLess", fn := fun _ => fun
  | [d1, d2, d3, d4, d5] => { results := [.lit (.bool true)], args := [d1, d2, d3, d4, d5] }
  | _ => none }
def queueLessRow : OpenClaim := { program := "ytbkokljelopcnaa", sum := "ad0cc6976d9b58d2905bf596a0f3edaba75b2f8247d4aa1c2377086b4265291d", func := "hansard/hansardlaw42.QueueLess", spec := "queueLess", unfollowed := true, recurses := true, apart := false }
def QueueLessSaid : Prop := queueLessRow.holds Try.pinned (OpenSpec.ofChange queueLessSpec)

/-- ITS FALSE NEIGHBOUR: 'it returns false'. Refute it at one input. -/
def queueLessWrong : ChangeSpec := { name := "queueLess", fn := fun _ => fun
  | [d1, d2, d3, d4, d5] => { results := [.lit (.bool false)], args := [d1, d2, d3, d4, d5] }
  | _ => none }
def QueueLessWrongFalsely : Prop := queueLessRow.holds Try.pinned (OpenSpec.ofChange queueLessWrong)

/-- 'hansardlaw42.QueueSpec': WHATEVER THE INPUT: true; the input reads as it did. -/
def queueSpecSpec : ChangeSpec := { name := "queueSpec", fn := fun _ => fun
  | [d1, d2] => { results := [.lit (.bool true)], args := [d1, d2] }
  | _ => none }
def queueSpecRow : OpenClaim := { program := "ytbkokljelopcnaa", sum := "ad0cc6976d9b58d2905bf596a0f3edaba75b2f8247d4aa1c2377086b4265291d", func := "hansard/hansardlaw42.QueueSpec", spec := "queueSpec", unfollowed := true, recurses := true, apart := false }
def QueueSpecSaid : Prop := queueSpecRow.holds Try.pinned (OpenSpec.ofChange queueSpecSpec)

/-- ITS FALSE NEIGHBOUR: 'it returns false'. Refute it at one input. -/
def queueSpecWrong : ChangeSpec := { name := "queueSpec", fn := fun _ => fun
  | [d1, d2] => { results := [.lit (.bool false)], args := [d1, d2] }
  | _ => none }
def QueueSpecWrongFalsely : Prop := queueSpecRow.holds Try.pinned (OpenSpec.ofChange queueSpecWrong)

/-- 'hansardlaw42.QueueEither': WHATEVER THE INPUT: true; the input reads as it did. -/
def queueEitherSpec : ChangeSpec := { name := "queueEither", fn := fun _ => fun
  | [d1, d2, d3] => { results := [.lit (.bool true)], args := [d1, d2, d3] }
  | _ => none }
def queueEitherRow : OpenClaim := { program := "ytbkokljelopcnaa", sum := "ad0cc6976d9b58d2905bf596a0f3edaba75b2f8247d4aa1c2377086b4265291d", func := "hansard/hansardlaw42.QueueEither", spec := "queueEither", unfollowed := true, recurses := true, apart := false }
def QueueEitherSaid : Prop := queueEitherRow.holds Try.pinned (OpenSpec.ofChange queueEitherSpec)

/-- ITS FALSE NEIGHBOUR: 'it returns false'. Refute it at one input. -/
def queueEitherWrong : ChangeSpec := { name := "queueEither", fn := fun _ => fun
  | [d1, d2, d3] => { results := [.lit (.bool false)], args := [d1, d2, d3] }
  | _ => none }
def QueueEitherWrongFalsely : Prop := queueEitherRow.holds Try.pinned (OpenSpec.ofChange queueEitherWrong)

/-- 'hansardlaw42.QueueWorked': WHATEVER THE INPUT: true; the input reads as it did. -/
def queueWorkedSpec : ChangeSpec := { name := "queueWorked", fn := fun _ => fun
  | [d1, d2] => { results := [.lit (.bool true)], args := [d1, d2] }
  | _ => none }
def queueWorkedRow : OpenClaim := { program := "ytbkokljelopcnaa", sum := "ad0cc6976d9b58d2905bf596a0f3edaba75b2f8247d4aa1c2377086b4265291d", func := "hansard/hansardlaw42.QueueWorked", spec := "queueWorked", unfollowed := true, recurses := true, apart := false }
def QueueWorkedSaid : Prop := queueWorkedRow.holds Try.pinned (OpenSpec.ofChange queueWorkedSpec)

/-- ITS FALSE NEIGHBOUR: 'it returns false'. Refute it at one input. -/
def queueWorkedWrong : ChangeSpec := { name := "queueWorked", fn := fun _ => fun
  | [d1, d2] => { results := [.lit (.bool false)], args := [d1, d2] }
  | _ => none }
def QueueWorkedWrongFalsely : Prop := queueWorkedRow.holds Try.pinned (OpenSpec.ofChange queueWorkedWrong)

/-- 'hansardlaw43.ShedSpec': WHATEVER THE INPUT: true; the input reads as it did. -/
def shedSpecSpec : ChangeSpec := { name := "shedSpec", fn := fun _ => fun
  | [d] => { results := [.lit (.bool true)], args := [d] }
  | _ => none }
def shedSpecRow : OpenClaim := { program := "ytbkokljelopcnaa", sum := "ad0cc6976d9b58d2905bf596a0f3edaba75b2f8247d4aa1c2377086b4265291d", func := "hansard/hansardlaw43.ShedSpec", spec := "shedSpec", unfollowed := true, recurses := true, apart := false }
def ShedSpecSaid : Prop := shedSpecRow.holds Try.pinned (OpenSpec.ofChange shedSpecSpec)

/-- ITS FALSE NEIGHBOUR: 'it returns false'. Refute it at one input. -/
def shedSpecWrong : ChangeSpec := { name := "shedSpec", fn := fun _ => fun
  | [d] => { results := [.lit (.bool false)], args := [d] }
  | _ => none }
def ShedSpecWrongFalsely : Prop := shedSpecRow.holds Try.pinned (OpenSpec.ofChange shedSpecWrong)

/-- 'hansardlaw43.ShedFitsSpec': WHATEVER THE INPUT: true; the input reads as it did. -/
def shedFitsSpecSpec : ChangeSpec := { name := "shedFitsSpec", fn := fun _ => fun
  | [d1, d2] => { results := [.lit (.bool true)], args := [d1, d2] }
  | _ => none }
def shedFitsSpecRow : OpenClaim := { program := "ytbkokljelopcnaa", sum := "ad0cc6976d9b58d2905bf596a0f3edaba75b2f8247d4aa1c2377086b4265291d", func := "hansard/hansardlaw43.ShedFitsSpec", spec := "shedFitsSpec", unfollowed := true, recurses := true, apart := false }
def ShedFitsSpecSaid : Prop := shedFitsSpecRow.holds Try.pinned (OpenSpec.ofChange shedFitsSpecSpec)

/-- ITS FALSE NEIGHBOUR: 'it returns false'. Refute it at one input. -/
def shedFitsSpecWrong : ChangeSpec := { name := "shedFitsSpec", fn := fun _ => fun
  | [d1, d2] => { results := [.lit (.bool false)], args := [d1, d2] }
  | _ => none }
def ShedFitsSpecWrongFalsely : Prop := shedFitsSpecRow.holds Try.pinned (OpenSpec.ofChange shedFitsSpecWrong)

/-- 'hansardlaw43.ShedLeast': WHATEVER THE INPUT: true; the input reads as it did. -/
def shedLeastSpec : ChangeSpec := { name := "shedLeast", fn := fun _ => fun
  | [d1, d2] => { results := [.lit (.bool true)], args := [d1, d2] }
  | _ => none }
def shedLeastRow : OpenClaim := { program := "ytbkokljelopcnaa", sum := "ad0cc6976d9b58d2905bf596a0f3edaba75b2f8247d4aa1c2377086b4265291d", func := "hansard/hansardlaw43.ShedLeast", spec := "shedLeast", unfollowed := true, recurses := true, apart := false }
def ShedLeastSaid : Prop := shedLeastRow.holds Try.pinned (OpenSpec.ofChange shedLeastSpec)

/-- ITS FALSE NEIGHBOUR: 'it returns false'. Refute it at one input. -/
def shedLeastWrong : ChangeSpec := { name := "shedLeast", fn := fun _ => fun
  | [d1, d2] => { results := [.lit (.bool false)], args := [d1, d2] }
  | _ => none }
def ShedLeastWrongFalsely : Prop := shedLeastRow.holds Try.pinned (OpenSpec.ofChange shedLeastWrong)

/-- 'hansardlaw43.ShedLater': WHATEVER THE INPUT: true; the input reads as it did. -/
def shedLaterSpec : ChangeSpec := { name := "shedLater", fn := fun _ => fun
  | [d1, d2, d3] => { results := [.lit (.bool true)], args := [d1, d2, d3] }
  | _ => none }
def shedLaterRow : OpenClaim := { program := "ytbkokljelopcnaa", sum := "ad0cc6976d9b58d2905bf596a0f3edaba75b2f8247d4aa1c2377086b4265291d", func := "hansard/hansardlaw43.ShedLater", spec := "shedLater", unfollowed := true, recurses := true, apart := false }
def ShedLaterSaid : Prop := shedLaterRow.holds Try.pinned (OpenSpec.ofChange shedLaterSpec)

/-- ITS FALSE NEIGHBOUR: 'it returns false'. Refute it at one input. -/
def shedLaterWrong : ChangeSpec := { name := "shedLater", fn := fun _ => fun
  | [d1, d2, d3] => { results := [.lit (.bool false)], args := [d1, d2, d3] }
  | _ => none }
def ShedLaterWrongFalsely : Prop := shedLaterRow.holds Try.pinned (OpenSpec.ofChange shedLaterWrong)

/-- 'hansardlaw43.ShedWords': WHATEVER THE INPUT: true; the input reads as it did. -/
def shedWordsSpec : ChangeSpec := { name := "shedWords", fn := fun _ => fun
  | [d] => { results := [.lit (.bool true)], args := [d] }
  | _ => none }
def shedWordsRow : OpenClaim := { program := "ytbkokljelopcnaa", sum := "ad0cc6976d9b58d2905bf596a0f3edaba75b2f8247d4aa1c2377086b4265291d", func := "hansard/hansardlaw43.ShedWords", spec := "shedWords", unfollowed := true, recurses := true, apart := false }
def ShedWordsSaid : Prop := shedWordsRow.holds Try.pinned (OpenSpec.ofChange shedWordsSpec)

/-- ITS FALSE NEIGHBOUR: 'it returns false'. Refute it at one input. -/
def shedWordsWrong : ChangeSpec := { name := "shedWords", fn := fun _ => fun
  | [d] => { results := [.lit (.bool false)], args := [d] }
  | _ => none }
def ShedWordsWrongFalsely : Prop := shedWordsRow.holds Try.pinned (OpenSpec.ofChange shedWordsWrong)

/-- 'hansardlaw43.ShedInTime': WHATEVER THE INPUT: true; the input reads as it did. -/
def shedInTimeSpec : ChangeSpec := { name := "shedInTime", fn := fun _ => fun
  | [d1, d2] => { results := [.lit (.bool true)], args := [d1, d2] }
  | _ => none }
def shedInTimeRow : OpenClaim := { program := "ytbkokljelopcnaa", sum := "ad0cc6976d9b58d2905bf596a0f3edaba75b2f8247d4aa1c2377086b4265291d", func := "hansard/hansardlaw43.ShedInTime", spec := "shedInTime", unfollowed := true, recurses := true, apart := false }
def ShedInTimeSaid : Prop := shedInTimeRow.holds Try.pinned (OpenSpec.ofChange shedInTimeSpec)

/-- ITS FALSE NEIGHBOUR: 'it returns false'. Refute it at one input. -/
def shedInTimeWrong : ChangeSpec := { name := "shedInTime", fn := fun _ => fun
  | [d1, d2] => { results := [.lit (.bool false)], args := [d1, d2] }
  | _ => none }
def ShedInTimeWrongFalsely : Prop := shedInTimeRow.holds Try.pinned (OpenSpec.ofChange shedInTimeWrong)

/- THE SECOND FORM. 'bulk': how many values and letters a reading holds, each counted each time it is reached (what is shared counts as often as it is met; a slice's spare places count too). A statement '..UptoSaid' is the law's where the arguments, and the package variables that the reading takes, are together of bulk at most 1048576: NARROWER than '..Said'. Prove '..Said' where nothing that the law and all that it calls make is longer than what came in: it says more and counts as full. Else prove '..UptoSaid'. A law counts once. -/
mutual
def uptoBulk {H : Type} : DataW H → Nat
  | .lit (.string bytes) => bytes.length + 1
  | .lit _ => 1
  | .nil => 1
  | .ptr d => uptoBulk d + 1
  | .slice elems spare => uptoBulkAll elems + uptoBulkAll spare + 1
  | .agg parts => uptoBulkAll parts + 1
  | .iface _ d => uptoBulk d + 1
  | .map entries => uptoBulkEntries entries + 1
  | .held _ => 1
def uptoBulkAll {H : Type} : List (DataW H) → Nat
  | [] => 0
  | d :: r => uptoBulk d + uptoBulkAll r
def uptoBulkEntries {H : Type} : List (Lit × DataW H) → Nat
  | [] => 0
  | x :: r => uptoBulkEntry x + uptoBulkEntries r
def uptoBulkEntry {H : Type} : Lit × DataW H → Nat
  | (.string bytes, d) => bytes.length + uptoBulk d + 1
  | (_, d) => uptoBulk d + 1
 end
def uptoSmall : (H : Type) → List (DataW H) → Bool := fun _ ds => decide (uptoBulkAll ds ≤ 1048576)
def OpenSpec.upto (s : _root_.Go.ChangeSpec) : _root_.Go.OpenSpec := { _root_.Go.OpenSpec.ofChange s with cond := some uptoSmall }

/-- 'hansardlaw42.QueueDenySpec', WHERE WHAT IT READS IS OF BULK AT MOST 1048576: true; the input reads as it did. -/
def queueDenySpecUptoRow : OpenClaim := { program := "ytbkokljelopcnaa", sum := "ad0cc6976d9b58d2905bf596a0f3edaba75b2f8247d4aa1c2377086b4265291d", func := "hansard/hansardlaw42.QueueDenySpec", spec := "queueDenySpec", unfollowed := true, recurses := true, apart := false, narrowed := true }
def QueueDenySpecUptoSaid : Prop := queueDenySpecUptoRow.holds Try.pinned (OpenSpec.upto queueDenySpecSpec)

/-- 'hansardlaw42.QueueFirst', WHERE WHAT IT READS IS OF BULK AT MOST 1048576: true; the input reads as it did. -/
def queueFirstUptoRow : OpenClaim := { program := "ytbkokljelopcnaa", sum := "ad0cc6976d9b58d2905bf596a0f3edaba75b2f8247d4aa1c2377086b4265291d", func := "hansard/hansardlaw42.QueueFirst", spec := "queueFirst", unfollowed := true, recurses := true, apart := false, narrowed := true }
def QueueFirstUptoSaid : Prop := queueFirstUptoRow.holds Try.pinned (OpenSpec.upto queueFirstSpec)

/-- 'hansardlaw42.QueueLess', WHERE WHAT IT READS IS OF BULK AT MOST 1048576: true; the input reads as it did. -/
def queueLessUptoRow : OpenClaim := { program := "ytbkokljelopcnaa", sum := "ad0cc6976d9b58d2905bf596a0f3edaba75b2f8247d4aa1c2377086b4265291d", func := "hansard/hansardlaw42.QueueLess", spec := "queueLess", unfollowed := true, recurses := true, apart := false, narrowed := true }
def QueueLessUptoSaid : Prop := queueLessUptoRow.holds Try.pinned (OpenSpec.upto queueLessSpec)

/-- 'hansardlaw42.QueueSpec', WHERE WHAT IT READS IS OF BULK AT MOST 1048576: true; the input reads as it did. -/
def queueSpecUptoRow : OpenClaim := { program := "ytbkokljelopcnaa", sum := "ad0cc6976d9b58d2905bf596a0f3edaba75b2f8247d4aa1c2377086b4265291d", func := "hansard/hansardlaw42.QueueSpec", spec := "queueSpec", unfollowed := true, recurses := true, apart := false, narrowed := true }
def QueueSpecUptoSaid : Prop := queueSpecUptoRow.holds Try.pinned (OpenSpec.upto queueSpecSpec)

/-- 'hansardlaw42.QueueEither', WHERE WHAT IT READS IS OF BULK AT MOST 1048576: true; the input reads as it did. -/
def queueEitherUptoRow : OpenClaim := { program := "ytbkokljelopcnaa", sum := "ad0cc6976d9b58d2905bf596a0f3edaba75b2f8247d4aa1c2377086b4265291d", func := "hansard/hansardlaw42.QueueEither", spec := "queueEither", unfollowed := true, recurses := true, apart := false, narrowed := true }
def QueueEitherUptoSaid : Prop := queueEitherUptoRow.holds Try.pinned (OpenSpec.upto queueEitherSpec)

/-- 'hansardlaw42.QueueWorked', WHERE WHAT IT READS IS OF BULK AT MOST 1048576: true; the input reads as it did. -/
def queueWorkedUptoRow : OpenClaim := { program := "ytbkokljelopcnaa", sum := "ad0cc6976d9b58d2905bf596a0f3edaba75b2f8247d4aa1c2377086b4265291d", func := "hansard/hansardlaw42.QueueWorked", spec := "queueWorked", unfollowed := true, recurses := true, apart := false, narrowed := true }
def QueueWorkedUptoSaid : Prop := queueWorkedUptoRow.holds Try.pinned (OpenSpec.upto queueWorkedSpec)

/-- 'hansardlaw43.ShedSpec', WHERE WHAT IT READS IS OF BULK AT MOST 1048576: true; the input reads as it did. -/
def shedSpecUptoRow : OpenClaim := { program := "ytbkokljelopcnaa", sum := "ad0cc6976d9b58d2905bf596a0f3edaba75b2f8247d4aa1c2377086b4265291d", func := "hansard/hansardlaw43.ShedSpec", spec := "shedSpec", unfollowed := true, recurses := true, apart := false, narrowed := true }
def ShedSpecUptoSaid : Prop := shedSpecUptoRow.holds Try.pinned (OpenSpec.upto shedSpecSpec)

/-- 'hansardlaw43.ShedFitsSpec', WHERE WHAT IT READS IS OF BULK AT MOST 1048576: true; the input reads as it did. -/
def shedFitsSpecUptoRow : OpenClaim := { program := "ytbkokljelopcnaa", sum := "ad0cc6976d9b58d2905bf596a0f3edaba75b2f8247d4aa1c2377086b4265291d", func := "hansard/hansardlaw43.ShedFitsSpec", spec := "shedFitsSpec", unfollowed := true, recurses := true, apart := false, narrowed := true }
def ShedFitsSpecUptoSaid : Prop := shedFitsSpecUptoRow.holds Try.pinned (OpenSpec.upto shedFitsSpecSpec)

/-- 'hansardlaw43.ShedLeast', WHERE WHAT IT READS IS OF BULK AT MOST 1048576: true; the input reads as it did. -/
def shedLeastUptoRow : OpenClaim := { program := "ytbkokljelopcnaa", sum := "ad0cc6976d9b58d2905bf596a0f3edaba75b2f8247d4aa1c2377086b4265291d", func := "hansard/hansardlaw43.ShedLeast", spec := "shedLeast", unfollowed := true, recurses := true, apart := false, narrowed := true }
def ShedLeastUptoSaid : Prop := shedLeastUptoRow.holds Try.pinned (OpenSpec.upto shedLeastSpec)

/-- 'hansardlaw43.ShedLater', WHERE WHAT IT READS IS OF BULK AT MOST 1048576: true; the input reads as it did. -/
def shedLaterUptoRow : OpenClaim := { program := "ytbkokljelopcnaa", sum := "ad0cc6976d9b58d2905bf596a0f3edaba75b2f8247d4aa1c2377086b4265291d", func := "hansard/hansardlaw43.ShedLater", spec := "shedLater", unfollowed := true, recurses := true, apart := false, narrowed := true }
def ShedLaterUptoSaid : Prop := shedLaterUptoRow.holds Try.pinned (OpenSpec.upto shedLaterSpec)

/-- 'hansardlaw43.ShedWords', WHERE WHAT IT READS IS OF BULK AT MOST 1048576: true; the input reads as it did. -/
def shedWordsUptoRow : OpenClaim := { program := "ytbkokljelopcnaa", sum := "ad0cc6976d9b58d2905bf596a0f3edaba75b2f8247d4aa1c2377086b4265291d", func := "hansard/hansardlaw43.ShedWords", spec := "shedWords", unfollowed := true, recurses := true, apart := false, narrowed := true }
def ShedWordsUptoSaid : Prop := shedWordsUptoRow.holds Try.pinned (OpenSpec.upto shedWordsSpec)

/-- 'hansardlaw43.ShedInTime', WHERE WHAT IT READS IS OF BULK AT MOST 1048576: true; the input reads as it did. -/
def shedInTimeUptoRow : OpenClaim := { program := "ytbkokljelopcnaa", sum := "ad0cc6976d9b58d2905bf596a0f3edaba75b2f8247d4aa1c2377086b4265291d", func := "hansard/hansardlaw43.ShedInTime", spec := "shedInTime", unfollowed := true, recurses := true, apart := false, narrowed := true }
def ShedInTimeUptoSaid : Prop := shedInTimeUptoRow.holds Try.pinned (OpenSpec.upto shedInTimeSpec)

end Rows
end Go.Proofs.Ytbkokljelopcnaa

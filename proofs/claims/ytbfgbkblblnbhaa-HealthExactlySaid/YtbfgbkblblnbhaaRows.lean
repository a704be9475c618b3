/-
  No cell of these rows narrows 'for every input' (looked for: loops, veiled, ifaces, maps, wideKeys, modest, calm, conditions, laid).
  DERIVED. THE GIVEN ROWS OF THIS SEAT. 12 by the template 'for every input the law returns true; each argument reads behind the call as it read before'; 0 by the template 'total and deterministic' (their statements: YtbfgbkblblnbhaaTotals.lean).
  GIVEN WITH THE SEED: the statements are not yours to turn. If you find one false, say at which input.
  Laid BY PROGRAM, IN A SANDBOX (cutbox-rows.mjs): the forced cells as the released guide's own fill.sh prints them over the translation e5d839da82d02a64… (all of the seat's roots in one cut). By AI agents, Wed Nov 11 2026. No macro, syntax, notation, axiom, sorry.
-/
import Derived.Test.YtbfgbkblblnbhaaChecked
import GoSem.Claim
import GoSem.ClaimJoined
import GoSem.ClaimMapViews
import Derived.JoinedTies
import Derived.KernelRfl
namespace Go.Proofs.Ytbfgbkblblnbhaa
/- THE CELL 'sum', in the pinned program and in every row, IS THE sha256 OF THE DUMP (.gsa) THAT YtbfgbkblblnbhaaProg.lean LOADS. Nothing in Lean hashes anything: it is a label: what it is worth is what the hold of that sum in a sandbox is worth. -/
noncomputable def Try.pinned : Pinned := { name := "ytbfgbkblblnbhaa", sum := "e5d839da82d02a645667ff3ccd3060a942dd678db7652319d4d081a6b1149056", checked := Try.checked }
namespace Rows
def none {H : Type} : Left H := { results := [], args := [] }

/-- 'hansardlaw24.HealthSpec': WHATEVER THE INPUT: true; the input reads as it did. -/
def healthSpecSpec : ChangeSpec := { name := "healthSpec", fn := fun _ => fun
  | [d1, d2, d3, d4] => { results := [.lit (.bool true)], args := [d1, d2, d3, d4] }
  | _ => none }
def healthSpecRow : OpenClaim := { program := "ytbfgbkblblnbhaa", sum := "e5d839da82d02a645667ff3ccd3060a942dd678db7652319d4d081a6b1149056", func := "hansard/hansardlaw24.HealthSpec", spec := "healthSpec", unfollowed := true, recurses := true, apart := false }
def HealthSpecSaid : Prop := healthSpecRow.holds Try.pinned (OpenSpec.ofChange healthSpecSpec)

/-- ITS FALSE NEIGHBOUR: 'it returns false'. Refute it at one input. -/
def healthSpecWrong : ChangeSpec := { name := "healthSpec", fn := fun _ => fun
  | [d1, d2, d3, d4] => { results := [.lit (.bool false)], args := [d1, d2, d3, d4] }
  | _ => none }
def HealthSpecWrongFalsely : Prop := healthSpecRow.holds Try.pinned (OpenSpec.ofChange healthSpecWrong)

/-- 'hansardlaw24.HealthSpansSpec': WHATEVER THE INPUT: true; the input reads as it did. -/
def healthSpansSpecSpec : ChangeSpec := { name := "healthSpansSpec", fn := fun _ => fun
  | [d1, d2, d3, d4, d5] => { results := [.lit (.bool true)], args := [d1, d2, d3, d4, d5] }
  | _ => none }
def healthSpansSpecRow : OpenClaim := { program := "ytbfgbkblblnbhaa", sum := "e5d839da82d02a645667ff3ccd3060a942dd678db7652319d4d081a6b1149056", func := "hansard/hansardlaw24.HealthSpansSpec", spec := "healthSpansSpec", unfollowed := true, recurses := true, apart := false }
def HealthSpansSpecSaid : Prop := healthSpansSpecRow.holds Try.pinned (OpenSpec.ofChange healthSpansSpecSpec)

/-- ITS FALSE NEIGHBOUR: 'it returns false'. Refute it at one input. -/
def healthSpansSpecWrong : ChangeSpec := { name := "healthSpansSpec", fn := fun _ => fun
  | [d1, d2, d3, d4, d5] => { results := [.lit (.bool false)], args := [d1, d2, d3, d4, d5] }
  | _ => none }
def HealthSpansSpecWrongFalsely : Prop := healthSpansSpecRow.holds Try.pinned (OpenSpec.ofChange healthSpansSpecWrong)

/-- 'hansardlaw24.HealthBeat': WHATEVER THE INPUT: true; the input reads as it did. -/
def healthBeatSpec : ChangeSpec := { name := "healthBeat", fn := fun _ => fun
  | [d1, d2, d3, d4, d5] => { results := [.lit (.bool true)], args := [d1, d2, d3, d4, d5] }
  | _ => none }
def healthBeatRow : OpenClaim := { program := "ytbfgbkblblnbhaa", sum := "e5d839da82d02a645667ff3ccd3060a942dd678db7652319d4d081a6b1149056", func := "hansard/hansardlaw24.HealthBeat", spec := "healthBeat", unfollowed := true, recurses := true, apart := false }
def HealthBeatSaid : Prop := healthBeatRow.holds Try.pinned (OpenSpec.ofChange healthBeatSpec)

/-- ITS FALSE NEIGHBOUR: 'it returns false'. Refute it at one input. -/
def healthBeatWrong : ChangeSpec := { name := "healthBeat", fn := fun _ => fun
  | [d1, d2, d3, d4, d5] => { results := [.lit (.bool false)], args := [d1, d2, d3, d4, d5] }
  | _ => none }
def HealthBeatWrongFalsely : Prop := healthBeatRow.holds Try.pinned (OpenSpec.ofChange healthBeatWrong)

/-- 'hansardlaw24.HealthMore': WHATEVER THE INPUT: true; the input reads as it did. -/
def healthMoreSpec : ChangeSpec := { name := "healthMore", fn := fun _ => fun
  | [d1, d2, d3, d4, d5] => { results := [.lit (.bool true)], args := [d1, d2, d3, d4, d5] }
  | _ => none }
def healthMoreRow : OpenClaim := { program := "ytbfgbkblblnbhaa", sum := "e5d839da82d02a645667ff3ccd3060a942dd678db7652319d4d081a6b1149056", func := "hansard/hansardlaw24.HealthMore", spec := "healthMore", unfollowed := true, recurses := true, apart := false }
def HealthMoreSaid : Prop := healthMoreRow.holds Try.pinned (OpenSpec.ofChange healthMoreSpec)

/-- ITS FALSE NEIGHBOUR: 'it returns false'. Refute it at one input. -/
def healthMoreWrong : ChangeSpec := { name := "healthMore", fn := fun _ => fun
  | [d1, d2, d3, d4, d5] => { results := [.lit (.bool false)], args := [d1, d2, d3, d4, d5] }
  | _ => none }
def HealthMoreWrongFalsely : Prop := healthMoreRow.holds Try.pinned (OpenSpec.ofChange healthMoreWrong)

/-- 'hansardlaw24.HealthAlone': WHATEVER THE INPUT: true; the input reads as it did. -/
def healthAloneSpec : ChangeSpec := { name := "healthAlone", fn := fun _ => fun
  | [d1, d2, d3, d4] => { results := [.lit (.bool true)], args := [d1, d2, d3, d4] }
  | _ => none }
def healthAloneRow : OpenClaim := { program := "ytbfgbkblblnbhaa", sum := "e5d839da82d02a645667ff3ccd3060a942dd678db7652319d4d081a6b1149056", func := "hansard/hansardlaw24.HealthAlone", spec := "healthAlone", unfollowed := true, recurses := true, apart := false }
def HealthAloneSaid : Prop := healthAloneRow.holds Try.pinned (OpenSpec.ofChange healthAloneSpec)

/-- ITS FALSE NEIGHBOUR: 'it returns false'. Refute it at one input. -/
def healthAloneWrong : ChangeSpec := { name := "healthAlone", fn := fun _ => fun
  | [d1, d2, d3, d4] => { results := [.lit (.bool false)], args := [d1, d2, d3, d4] }
  | _ => none }
def HealthAloneWrongFalsely : Prop := healthAloneRow.holds Try.pinned (OpenSpec.ofChange healthAloneWrong)

/-- 'hansardlaw13.SpansSpec': WHATEVER THE INPUT: true; the input reads as it did. -/
def spansSpecSpec : ChangeSpec := { name := "spansSpec", fn := fun _ => fun
  | [d1, d2] => { results := [.lit (.bool true)], args := [d1, d2] }
  | _ => none }
def spansSpecRow : OpenClaim := { program := "ytbfgbkblblnbhaa", sum := "e5d839da82d02a645667ff3ccd3060a942dd678db7652319d4d081a6b1149056", func := "hansard/hansardlaw13.SpansSpec", spec := "spansSpec", unfollowed := true, recurses := true, apart := false }
def SpansSpecSaid : Prop := spansSpecRow.holds Try.pinned (OpenSpec.ofChange spansSpecSpec)

/-- ITS FALSE NEIGHBOUR: 'it returns false'. Refute it at one input. -/
def spansSpecWrong : ChangeSpec := { name := "spansSpec", fn := fun _ => fun
  | [d1, d2] => { results := [.lit (.bool false)], args := [d1, d2] }
  | _ => none }
def SpansSpecWrongFalsely : Prop := spansSpecRow.holds Try.pinned (OpenSpec.ofChange spansSpecWrong)

/-- 'hansardlaw13.SpansSetsSpec': WHATEVER THE INPUT: true; the input reads as it did. -/
def spansSetsSpecSpec : ChangeSpec := { name := "spansSetsSpec", fn := fun _ => fun
  | [d1, d2] => { results := [.lit (.bool true)], args := [d1, d2] }
  | _ => none }
def spansSetsSpecRow : OpenClaim := { program := "ytbfgbkblblnbhaa", sum := "e5d839da82d02a645667ff3ccd3060a942dd678db7652319d4d081a6b1149056", func := "hansard/hansardlaw13.SpansSetsSpec", spec := "spansSetsSpec", unfollowed := true, recurses := true, apart := false }
def SpansSetsSpecSaid : Prop := spansSetsSpecRow.holds Try.pinned (OpenSpec.ofChange spansSetsSpecSpec)

/-- ITS FALSE NEIGHBOUR: 'it returns false'. Refute it at one input. -/
def spansSetsSpecWrong : ChangeSpec := { name := "spansSetsSpec", fn := fun _ => fun
  | [d1, d2] => { results := [.lit (.bool false)], args := [d1, d2] }
  | _ => none }
def SpansSetsSpecWrongFalsely : Prop := spansSetsSpecRow.holds Try.pinned (OpenSpec.ofChange spansSetsSpecWrong)

/-- 'hansardlaw13.SpansSets': WHATEVER THE INPUT: true; the input reads as it did. -/
def spansSetsSpec : ChangeSpec := { name := "spansSets", fn := fun _ => fun
  | [d1, d2, d3] => { results := [.lit (.bool true)], args := [d1, d2, d3] }
  | _ => none }
def spansSetsRow : OpenClaim := { program := "ytbfgbkblblnbhaa", sum := "e5d839da82d02a645667ff3ccd3060a942dd678db7652319d4d081a6b1149056", func := "hansard/hansardlaw13.SpansSets", spec := "spansSets", unfollowed := true, recurses := true, apart := false }
def SpansSetsSaid : Prop := spansSetsRow.holds Try.pinned (OpenSpec.ofChange spansSetsSpec)

/-- ITS FALSE NEIGHBOUR: 'it returns false'. Refute it at one input. -/
def spansSetsWrong : ChangeSpec := { name := "spansSets", fn := fun _ => fun
  | [d1, d2, d3] => { results := [.lit (.bool false)], args := [d1, d2, d3] }
  | _ => none }
def SpansSetsWrongFalsely : Prop := spansSetsRow.holds Try.pinned (OpenSpec.ofChange spansSetsWrong)

/-- 'hansardlaw13.SpansCounted': WHATEVER THE INPUT: true; the input reads as it did. -/
def spansCountedSpec : ChangeSpec := { name := "spansCounted", fn := fun _ => fun
  | [d1, d2] => { results := [.lit (.bool true)], args := [d1, d2] }
  | _ => none }
def spansCountedRow : OpenClaim := { program := "ytbfgbkblblnbhaa", sum := "e5d839da82d02a645667ff3ccd3060a942dd678db7652319d4d081a6b1149056", func := "hansard/hansardlaw13.SpansCounted", spec := "spansCounted", unfollowed := true, recurses := true, apart := false }
def SpansCountedSaid : Prop := spansCountedRow.holds Try.pinned (OpenSpec.ofChange spansCountedSpec)

/-- ITS FALSE NEIGHBOUR: 'it returns false'. Refute it at one input. -/
def spansCountedWrong : ChangeSpec := { name := "spansCounted", fn := fun _ => fun
  | [d1, d2] => { results := [.lit (.bool false)], args := [d1, d2] }
  | _ => none }
def SpansCountedWrongFalsely : Prop := spansCountedRow.holds Try.pinned (OpenSpec.ofChange spansCountedWrong)

/-- 'hansardlaw13.SpansAlgebra': WHATEVER THE INPUT: true; the input reads as it did. -/
def spansAlgebraSpec : ChangeSpec := { name := "spansAlgebra", fn := fun _ => fun
  | [d1, d2, d3] => { results := [.lit (.bool true)], args := [d1, d2, d3] }
  | _ => none }
def spansAlgebraRow : OpenClaim := { program := "ytbfgbkblblnbhaa", sum := "e5d839da82d02a645667ff3ccd3060a942dd678db7652319d4d081a6b1149056", func := "hansard/hansardlaw13.SpansAlgebra", spec := "spansAlgebra", unfollowed := true, recurses := true, apart := false }
def SpansAlgebraSaid : Prop := spansAlgebraRow.holds Try.pinned (OpenSpec.ofChange spansAlgebraSpec)

/-- ITS FALSE NEIGHBOUR: 'it returns false'. Refute it at one input. -/
def spansAlgebraWrong : ChangeSpec := { name := "spansAlgebra", fn := fun _ => fun
  | [d1, d2, d3] => { results := [.lit (.bool false)], args := [d1, d2, d3] }
  | _ => none }
def SpansAlgebraWrongFalsely : Prop := spansAlgebraRow.holds Try.pinned (OpenSpec.ofChange spansAlgebraWrong)

/-- 'hansardlaw13.SpansEqual': WHATEVER THE INPUT: true; the input reads as it did. -/
def spansEqualSpec : ChangeSpec := { name := "spansEqual", fn := fun _ => fun
  | [d1, d2] => { results := [.lit (.bool true)], args := [d1, d2] }
  | _ => none }
def spansEqualRow : OpenClaim := { program := "ytbfgbkblblnbhaa", sum := "e5d839da82d02a645667ff3ccd3060a942dd678db7652319d4d081a6b1149056", func := "hansard/hansardlaw13.SpansEqual", spec := "spansEqual", unfollowed := true, recurses := true, apart := false }
def SpansEqualSaid : Prop := spansEqualRow.holds Try.pinned (OpenSpec.ofChange spansEqualSpec)

/-- ITS FALSE NEIGHBOUR: 'it returns false'. Refute it at one input. -/
def spansEqualWrong : ChangeSpec := { name := "spansEqual", fn := fun _ => fun
  | [d1, d2] => { results := [.lit (.bool false)], args := [d1, d2] }
  | _ => none }
def SpansEqualWrongFalsely : Prop := spansEqualRow.holds Try.pinned (OpenSpec.ofChange spansEqualWrong)

/-- 'hansardlaw24.HealthExactly': WHATEVER THE INPUT: true; the input reads as it did. -/
def healthExactlySpec : ChangeSpec := { name := "healthExactly", fn := fun _ => fun
  | [d1, d2, d3] => { results := [.lit (.bool true)], args := [d1, d2, d3] }
  | _ => none }
def healthExactlyRow : OpenClaim := { program := "ytbfgbkblblnbhaa", sum := "e5d839da82d02a645667ff3ccd3060a942dd678db7652319d4d081a6b1149056", func := "hansard/hansardlaw24.HealthExactly", spec := "healthExactly", unfollowed := true, recurses := true, apart := false }
def HealthExactlySaid : Prop := healthExactlyRow.holds Try.pinned (OpenSpec.ofChange healthExactlySpec)

/-- ITS FALSE NEIGHBOUR: 'it returns false'. Refute it at one input. -/
def healthExactlyWrong : ChangeSpec := { name := "healthExactly", fn := fun _ => fun
  | [d1, d2, d3] => { results := [.lit (.bool false)], args := [d1, d2, d3] }
  | _ => none }
def HealthExactlyWrongFalsely : Prop := healthExactlyRow.holds Try.pinned (OpenSpec.ofChange healthExactlyWrong)

/- THE SECOND FORM. 'bulk': how many values and letters a reading holds, each counted each time it is reached (what is shared counts as often as it is met; a slice's spare places count too). A statement '..UptoSaid' is the law's where the arguments, and the package variables that the reading takes, are together of bulk at most 1048576: NARROWER than '..Said'. Prove '..Said' where nothing that the law and all that it calls make is longer than what came in: it says more and counts as full. Else prove '..UptoSaid'. A law counts once. -/
mutual
def uptoBulk {H : Type} : DataW H → Nat
  | .lit (.string bytes) => bytes.length + 1
  | .lit _ => 1
  | .nil => 1
  | .ptr d => uptoBulk d + 1
  | .slice elems spare => uptoBulkAll elems + uptoBulkAll spare + 1
  | .agg parts => uptoBulkAll parts + 1
  | .iface _ d => uptoBulk d + 1
  | .map entries => uptoBulkEntries entries + 1
  | .held _ => 1
def uptoBulkAll {H : Type} : List (DataW H) → Nat
  | [] => 0
  | d :: r => uptoBulk d + uptoBulkAll r
def uptoBulkEntries {H : Type} : List (Lit × DataW H) → Nat
  | [] => 0
  | x :: r => uptoBulkEntry x + uptoBulkEntries r
def uptoBulkEntry {H : Type} : Lit × DataW H → Nat
  | (.string bytes, d) => bytes.length + uptoBulk d + 1
  | (_, d) => uptoBulk d + 1
 end
def uptoSmall : (H : Type) → List (DataW H) → Bool := fun _ ds => decide (uptoBulkAll ds ≤ 1048576)
def OpenSpec.upto (s : _root_.Go.ChangeSpec) : _root_.Go.OpenSpec := { _root_.Go.OpenSpec.ofChange s with cond := some uptoSmall }

/-- 'hansardlaw24.HealthSpec', WHERE WHAT IT READS IS OF BULK AT MOST 1048576: true; the input reads as it did. -/
def healthSpecUptoRow : OpenClaim := { program := "ytbfgbkblblnbhaa", sum := "e5d839da82d02a645667ff3ccd3060a942dd678db7652319d4d081a6b1149056", func := "hansard/hansardlaw24.HealthSpec", spec := "healthSpec", unfollowed := true, recurses := true, apart := false, narrowed := true }
def HealthSpecUptoSaid : Prop := healthSpecUptoRow.holds Try.pinned (OpenSpec.upto healthSpecSpec)

/-- 'hansardlaw24.HealthSpansSpec', WHERE WHAT IT READS IS OF BULK AT MOST 1048576: true; the input reads as it did. -/
def healthSpansSpecUptoRow : OpenClaim := { program := "ytbfgbkblblnbhaa", sum := "e5d839da82d02a645667ff3ccd3060a942dd678db7652319d4d081a6b1149056", func := "hansard/hansardlaw24.HealthSpansSpec", spec := "healthSpansSpec", unfollowed := true, recurses := true, apart := false, narrowed := true }
def HealthSpansSpecUptoSaid : Prop := healthSpansSpecUptoRow.holds Try.pinned (OpenSpec.upto healthSpansSpecSpec)

/-- 'hansardlaw24.HealthBeat', WHERE WHAT IT READS IS OF BULK AT MOST 1048576: true; the input reads as it did. -/
def healthBeatUptoRow : OpenClaim := { program := "ytbfgbkblblnbhaa", sum := "e5d839da82d02a645667ff3ccd3060a942dd678db7652319d4d081a6b1149056", func := "hansard/hansardlaw24.HealthBeat", spec := "healthBeat", unfollowed := true, recurses := true, apart := false, narrowed := true }
def HealthBeatUptoSaid : Prop := healthBeatUptoRow.holds Try.pinned (OpenSpec.upto healthBeatSpec)

/-- 'hansardlaw24.HealthMore', WHERE WHAT IT READS IS OF BULK AT MOST 1048576: true; the input reads as it did. -/
def healthMoreUptoRow : OpenClaim := { program := "ytbfgbkblblnbhaa", sum := "e5d839da82d02a645667ff3ccd3060a942dd678db7652319d4d081a6b1149056", func := "hansard/hansardlaw24.HealthMore", spec := "healthMore", unfollowed := true, recurses := true, apart := false, narrowed := true }
def HealthMoreUptoSaid : Prop := healthMoreUptoRow.holds Try.pinned (OpenSpec.upto healthMoreSpec)

/-- 'hansardlaw24.HealthAlone', WHERE WHAT IT READS IS OF BULK AT MOST 1048576: true; the input reads as it did. -/
def healthAloneUptoRow : OpenClaim := { program := "ytbfgbkblblnbhaa", sum := "e5d839da82d02a645667ff3ccd3060a942dd678db7652319d4d081a6b1149056", func := "hansard/hansardlaw24.HealthAlone", spec := "healthAlone", unfollowed := true, recurses := true, apart := false, narrowed := true }
def HealthAloneUptoSaid : Prop := healthAloneUptoRow.holds Try.pinned (OpenSpec.upto healthAloneSpec)

/-- 'hansardlaw13.SpansSpec', WHERE WHAT IT READS IS OF BULK AT MOST 1048576: true; the input reads as it did. -/
def spansSpecUptoRow : OpenClaim := { program := "ytbfgbkblblnbhaa", sum := "e5d839da82d02a645667ff3ccd3060a942dd678db7652319d4d081a6b1149056", func := "hansard/hansardlaw13.SpansSpec", spec := "spansSpec", unfollowed := true, recurses := true, apart := false, narrowed := true }
def SpansSpecUptoSaid : Prop := spansSpecUptoRow.holds Try.pinned (OpenSpec.upto spansSpecSpec)

/-- 'hansardlaw13.SpansSetsSpec', WHERE WHAT IT READS IS OF BULK AT MOST 1048576: true; the input reads as it did. -/
def spansSetsSpecUptoRow : OpenClaim := { program := "ytbfgbkblblnbhaa", sum := "e5d839da82d02a645667ff3ccd3060a942dd678db7652319d4d081a6b1149056", func := "hansard/hansardlaw13.SpansSetsSpec", spec := "spansSetsSpec", unfollowed := true, recurses := true, apart := false, narrowed := true }
def SpansSetsSpecUptoSaid : Prop := spansSetsSpecUptoRow.holds Try.pinned (OpenSpec.upto spansSetsSpecSpec)

/-- 'hansardlaw13.SpansSets', WHERE WHAT IT READS IS OF BULK AT MOST 1048576: true; the input reads as it did. -/
def spansSetsUptoRow : OpenClaim := { program := "ytbfgbkblblnbhaa", sum := "e5d839da82d02a645667ff3ccd3060a942dd678db7652319d4d081a6b1149056", func := "hansard/hansardlaw13.SpansSets", spec := "spansSets", unfollowed := true, recurses := true, apart := false, narrowed := true }
def SpansSetsUptoSaid : Prop := spansSetsUptoRow.holds Try.pinned (OpenSpec.upto spansSetsSpec)

/-- 'hansardlaw13.SpansCounted', WHERE WHAT IT READS IS OF BULK AT MOST 1048576: true; the input reads as it did. -/
def spansCountedUptoRow : OpenClaim := { program := "ytbfgbkblblnbhaa", sum := "e5d839da82d02a645667ff3ccd3060a942dd678db7652319d4d081a6b1149056", func := "hansard/hansardlaw13.SpansCounted", spec := "spansCounted", unfollowed := true, recurses := true, apart := false, narrowed := true }
def SpansCountedUptoSaid : Prop := spansCountedUptoRow.holds Try.pinned (OpenSpec.upto spansCountedSpec)

/-- 'hansardlaw13.SpansAlgebra', WHERE WHAT IT READS IS OF BULK AT MOST 1048576: true; the input reads as it did. -/
def spansAlgebraUptoRow : OpenClaim := { program := "ytbfgbkblblnbhaa", sum := "e5d839da82d02a645667ff3ccd3060a942dd678db7652319d4d081a6b1149056", func := "hansard/hansardlaw13.SpansAlgebra", spec := "spansAlgebra", unfollowed := true, recurses := true, apart := false, narrowed := true }
def SpansAlgebraUptoSaid : Prop := spansAlgebraUptoRow.holds Try.pinned (OpenSpec.upto spansAlgebraSpec)

/-- 'hansardlaw13.SpansEqual', WHERE WHAT IT READS IS OF BULK AT MOST 1048576: true; the input reads as it did. -/
def spansEqualUptoRow : OpenClaim := { program := "ytbfgbkblblnbhaa", sum := "e5d839da82d02a645667ff3ccd3060a942dd678db7652319d4d081a6b1149056", func := "hansard/hansardlaw13.SpansEqual", spec := "spansEqual", unfollowed := true, recurses := true, apart := false, narrowed := true }
def SpansEqualUptoSaid : Prop := spansEqualUptoRow.holds Try.pinned (OpenSpec.upto spansEqualSpec)

/-- 'hansardlaw24.HealthExactly', WHERE WHAT IT READS IS OF BULK AT MOST 1048576: true; the input reads as it did. -/
def healthExactlyUptoRow : OpenClaim := { program := "ytbfgbkblblnbhaa", sum := "e5d839da82d02a645667ff3ccd3060a942dd678db7652319d4d081a6b1149056", func := "hansard/hansardlaw24.HealthExactly", spec := "healthExactly", unfollowed := true, recurses := true, apart := false, narrowed := true }
def HealthExactlyUptoSaid : Prop := healthExactlyUptoRow.holds Try.pinned (OpenSpec.upto healthExactlySpec)

end Rows
end Go.Proofs.Ytbfgbkblblnbhaa

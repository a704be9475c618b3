/-
  No cell of these rows narrows 'for every input' (looked for: loops, veiled, ifaces, maps, wideKeys, modest, calm, conditions, laid).
  DERIVED. THE GIVEN ROWS OF THIS SEAT. 11 by the template 'for every input the law returns true; each argument reads behind the call as it read before'; 0 by the template 'total and deterministic' (their statements: YtchdoamoeccjkaaTotals.lean).
  GIVEN WITH THE SEED: the statements are not yours to turn. If you find one false, say at which input.
  Laid BY PROGRAM, IN A SANDBOX (cutbox-rows.mjs): the forced cells as the released guide's own fill.sh prints them over the translation daa3aa344a8ffe97… (all of the seat's roots in one cut). By AI agents, Wed Nov 11 2026. No macro, syntax, notation, axiom, sorry.
-/
import Derived.Test.YtchdoamoeccjkaaChecked
import GoSem.Claim
import GoSem.ClaimJoined
import GoSem.ClaimMapViews
import Derived.JoinedTies
import Derived.KernelRfl
namespace Go.Proofs.Ytchdoamoeccjkaa
/- THE CELL 'sum', in the pinned program and in every row, IS THE sha256 OF THE DUMP (.gsa) THAT YtchdoamoeccjkaaProg.lean LOADS. Nothing in Lean hashes anything: it is a label: what it is worth is what the hold of that sum in a sandbox is worth. -/
noncomputable def Try.pinned : Pinned := { name := "ytchdoamoeccjkaa", sum := "daa3aa344a8ffe97f8375bc911d3b019c025a3438e8bed215995bb1ab5116965", checked := Try.checked }
namespace Rows
def none {H : Type} : Left H := { results := [], args := [] }

/-- 'hansardlaw52.VisitsSpec': WHATEVER THE INPUT: true; the input reads as it did. -/
def visitsSpecSpec : ChangeSpec := { name := "visitsSpec", fn := fun _ => fun
  | [d1, d2, d3] => { results := [.lit (.bool true)], args := [d1, d2, d3] }
  | _ => none }
def visitsSpecRow : OpenClaim := { program := "ytchdoamoeccjkaa", sum := "daa3aa344a8ffe97f8375bc911d3b019c025a3438e8bed215995bb1ab5116965", func := "hansard/hansardlaw52.VisitsSpec", spec := "visitsSpec", unfollowed := true, recurses := true, apart := false }
def VisitsSpecSaid : Prop := visitsSpecRow.holds Try.pinned (OpenSpec.ofChange visitsSpecSpec)

/-- ITS FALSE NEIGHBOUR: 'it returns false'. Refute it at one input. -/
def visitsSpecWrong : ChangeSpec := { name := "visitsSpec", fn := fun _ => fun
  | [d1, d2, d3] => { results := [.lit (.bool false)], args := [d1, d2, d3] }
  | _ => none }
def VisitsSpecWrongFalsely : Prop := visitsSpecRow.holds Try.pinned (OpenSpec.ofChange visitsSpecWrong)

/-- 'hansardlaw52.VisitsSpansSpec': WHATEVER THE INPUT: true; the input reads as it did. -/
def visitsSpansSpecSpec : ChangeSpec := { name := "visitsSpansSpec", fn := fun _ => fun
  | [d1, d2, d3, d4] => { results := [.lit (.bool true)], args := [d1, d2, d3, d4] }
  | _ => none }
def visitsSpansSpecRow : OpenClaim := { program := "ytchdoamoeccjkaa", sum := "daa3aa344a8ffe97f8375bc911d3b019c025a3438e8bed215995bb1ab5116965", func := "hansard/hansardlaw52.VisitsSpansSpec", spec := "visitsSpansSpec", unfollowed := true, recurses := true, apart := false }
def VisitsSpansSpecSaid : Prop := visitsSpansSpecRow.holds Try.pinned (OpenSpec.ofChange visitsSpansSpecSpec)

/-- ITS FALSE NEIGHBOUR: 'it returns false'. Refute it at one input. -/
def visitsSpansSpecWrong : ChangeSpec := { name := "visitsSpansSpec", fn := fun _ => fun
  | [d1, d2, d3, d4] => { results := [.lit (.bool false)], args := [d1, d2, d3, d4] }
  | _ => none }
def VisitsSpansSpecWrongFalsely : Prop := visitsSpansSpecRow.holds Try.pinned (OpenSpec.ofChange visitsSpansSpecWrong)

/-- 'hansardlaw52.VisitsAlone': WHATEVER THE INPUT: true; the input reads as it did. -/
def visitsAloneSpec : ChangeSpec := { name := "visitsAlone", fn := fun _ => fun
  | [d1, d2, d3, d4, d5] => { results := [.lit (.bool true)], args := [d1, d2, d3, d4, d5] }
  | _ => none }
def visitsAloneRow : OpenClaim := { program := "ytchdoamoeccjkaa", sum := "daa3aa344a8ffe97f8375bc911d3b019c025a3438e8bed215995bb1ab5116965", func := "hansard/hansardlaw52.VisitsAlone", spec := "visitsAlone", unfollowed := true, recurses := true, apart := false }
def VisitsAloneSaid : Prop := visitsAloneRow.holds Try.pinned (OpenSpec.ofChange visitsAloneSpec)

/-- ITS FALSE NEIGHBOUR: 'it returns false'. Refute it at one input. -/
def visitsAloneWrong : ChangeSpec := { name := "visitsAlone", fn := fun _ => fun
  | [d1, d2, d3, d4, d5] => { results := [.lit (.bool false)], args := [d1, d2, d3, d4, d5] }
  | _ => none }
def VisitsAloneWrongFalsely : Prop := visitsAloneRow.holds Try.pinned (OpenSpec.ofChange visitsAloneWrong)

/-- 'hansardlaw52.VisitsDo': WHATEVER THE INPUT: true; the input reads as it did. -/
def visitsDoSpec : ChangeSpec := { name := "visitsDo", fn := fun _ => fun
  | [d1, d2, d3] => { results := [.lit (.bool true)], args := [d1, d2, d3] }
  | _ => none }
def visitsDoRow : OpenClaim := { program := "ytchdoamoeccjkaa", sum := "daa3aa344a8ffe97f8375bc911d3b019c025a3438e8bed215995bb1ab5116965", func := "hansard/hansardlaw52.VisitsDo", spec := "visitsDo", unfollowed := true, recurses := true, apart := false }
def VisitsDoSaid : Prop := visitsDoRow.holds Try.pinned (OpenSpec.ofChange visitsDoSpec)

/-- ITS FALSE NEIGHBOUR: 'it returns false'. Refute it at one input. -/
def visitsDoWrong : ChangeSpec := { name := "visitsDo", fn := fun _ => fun
  | [d1, d2, d3] => { results := [.lit (.bool false)], args := [d1, d2, d3] }
  | _ => none }
def VisitsDoWrongFalsely : Prop := visitsDoRow.holds Try.pinned (OpenSpec.ofChange visitsDoWrong)

/-- 'hansardlaw46.RegionsSpec': WHATEVER THE INPUT: true; the input reads as it did. -/
def regionsSpecSpec : ChangeSpec := { name := "regionsSpec", fn := fun _ => fun
  | [d1, d2, d3] => { results := [.lit (.bool true)], args := [d1, d2, d3] }
  | _ => none }
def regionsSpecRow : OpenClaim := { program := "ytchdoamoeccjkaa", sum := "daa3aa344a8ffe97f8375bc911d3b019c025a3438e8bed215995bb1ab5116965", func := "hansard/hansardlaw46.RegionsSpec", spec := "regionsSpec", unfollowed := true, recurses := true, apart := false }
def RegionsSpecSaid : Prop := regionsSpecRow.holds Try.pinned (OpenSpec.ofChange regionsSpecSpec)

/-- ITS FALSE NEIGHBOUR: 'it returns false'. Refute it at one input. -/
def regionsSpecWrong : ChangeSpec := { name := "regionsSpec", fn := fun _ => fun
  | [d1, d2, d3] => { results := [.lit (.bool false)], args := [d1, d2, d3] }
  | _ => none }
def RegionsSpecWrongFalsely : Prop := regionsSpecRow.holds Try.pinned (OpenSpec.ofChange regionsSpecWrong)

/-- 'hansardlaw46.RegionsDenySpec': WHATEVER THE INPUT: true; the input reads as it did. -/
def regionsDenySpecSpec : ChangeSpec := { name := "regionsDenySpec", fn := fun _ => fun
  | [d1, d2, d3, d4] => { results := [.lit (.bool true)], args := [d1, d2, d3, d4] }
  | _ => none }
def regionsDenySpecRow : OpenClaim := { program := "ytchdoamoeccjkaa", sum := "daa3aa344a8ffe97f8375bc911d3b019c025a3438e8bed215995bb1ab5116965", func := "hansard/hansardlaw46.RegionsDenySpec", spec := "regionsDenySpec", unfollowed := true, recurses := true, apart := false }
def RegionsDenySpecSaid : Prop := regionsDenySpecRow.holds Try.pinned (OpenSpec.ofChange regionsDenySpecSpec)

/-- ITS FALSE NEIGHBOUR: 'it returns false'. Refute it at one input. -/
def regionsDenySpecWrong : ChangeSpec := { name := "regionsDenySpec", fn := fun _ => fun
  | [d1, d2, d3, d4] => { results := [.lit (.bool false)], args := [d1, d2, d3, d4] }
  | _ => none }
def RegionsDenySpecWrongFalsely : Prop := regionsDenySpecRow.holds Try.pinned (OpenSpec.ofChange regionsDenySpecWrong)

/-- 'hansardlaw46.RegionsEither': WHATEVER THE INPUT: true; the input reads as it did. -/
def regionsEitherSpec : ChangeSpec := { name := "regionsEither", fn := fun _ => fun
  | [d1, d2, d3, d4, d5, d6] => { results := [.lit (.bool true)], args := [d1, d2, d3, d4, d5, d6] }
  | _ => none }
def regionsEitherRow : OpenClaim := { program := "ytchdoamoeccjkaa", sum := "daa3aa344a8ffe97f8375bc911d3b019c025a3438e8bed215995bb1ab5116965", func := "hansard/hansardlaw46.RegionsEither", spec := "regionsEither", unfollowed := true, recurses := true, apart := false }
def RegionsEitherSaid : Prop := regionsEitherRow.holds Try.pinned (OpenSpec.ofChange regionsEitherSpec)

/-- ITS FALSE NEIGHBOUR: 'it returns false'. Refute it at one input. -/
def regionsEitherWrong : ChangeSpec := { name := "regionsEither", fn := fun _ => fun
  | [d1, d2, d3, d4, d5, d6] => { results := [.lit (.bool false)], args := [d1, d2, d3, d4, d5, d6] }
  | _ => none }
def RegionsEitherWrongFalsely : Prop := regionsEitherRow.holds Try.pinned (OpenSpec.ofChange regionsEitherWrong)

/-- 'hansardlaw46.RegionsLowest': WHATEVER THE INPUT: true; the input reads as it did. -/
def regionsLowestSpec : ChangeSpec := { name := "regionsLowest", fn := fun _ => fun
  | [d1, d2, d3, d4, d5] => { results := [.lit (.bool true)], args := [d1, d2, d3, d4, d5] }
  | _ => none }
def regionsLowestRow : OpenClaim := { program := "ytchdoamoeccjkaa", sum := "daa3aa344a8ffe97f8375bc911d3b019c025a3438e8bed215995bb1ab5116965", func := "hansard/hansardlaw46.RegionsLowest", spec := "regionsLowest", unfollowed := true, recurses := true, apart := false }
def RegionsLowestSaid : Prop := regionsLowestRow.holds Try.pinned (OpenSpec.ofChange regionsLowestSpec)

/-- ITS FALSE NEIGHBOUR: 'it returns false'. Refute it at one input. -/
def regionsLowestWrong : ChangeSpec := { name := "regionsLowest", fn := fun _ => fun
  | [d1, d2, d3, d4, d5] => { results := [.lit (.bool false)], args := [d1, d2, d3, d4, d5] }
  | _ => none }
def RegionsLowestWrongFalsely : Prop := regionsLowestRow.holds Try.pinned (OpenSpec.ofChange regionsLowestWrong)

/-- 'hansardlaw46.RegionsLess': WHATEVER THE INPUT: true; the input reads as it did. -/
def regionsLessSpec : ChangeSpec := { name := "regionsLess", fn := fun _ => fun
  | [d1, d2, d3, d4, d5, d6, d7] => { results := [.lit (.bool true)], args := [d1, d2, d3, d4, d5, d6, d7] }
  | _ => none }
def regionsLessRow : OpenClaim := { program := "ytchdoamoeccjkaa", sum := "daa3aa344a8ffe97f8375bc911d3b019c025a3438e8bed215995bb1ab5116965", func := "hansard/hansardlaw46.RegionsLess", spec := "regionsLess", unfollowed := true, recurses := true, apart := false }
def RegionsLessSaid : Prop := regionsLessRow.holds Try.pinned (OpenSpec.ofChange regionsLessSpec)

/-- ITS FALSE NEIGHBOUR: 'it returns false'. Refute it at one input. -/
def regionsLessWrong : ChangeSpec := { name := "regionsLess", fn := fun _ => fun
  | [d1, d2, d3, d4, d5, d6, d7] => { results := [.lit (.bool false)], args := [d1, d2, d3, d4, d5, d6, d7] }
  | _ => none }
def RegionsLessWrongFalsely : Prop := regionsLessRow.holds Try.pinned (OpenSpec.ofChange regionsLessWrong)

/-- 'hansardlaw52.VisitsExactly': WHATEVER THE INPUT: true; the input reads as it did. -/
def visitsExactlySpec : ChangeSpec := { name := "visitsExactly", fn := fun _ => fun
  | [d1, d2, d3] => { results := [.lit (.bool true)], args := [d1, d2, d3] }
  | _ => none }
def visitsExactlyRow : OpenClaim := { program := "ytchdoamoeccjkaa", sum := "daa3aa344a8ffe97f8375bc911d3b019c025a3438e8bed215995bb1ab5116965", func := "hansard/hansardlaw52.VisitsExactly", spec := "visitsExactly", unfollowed := true, recurses := true, apart := false }
def VisitsExactlySaid : Prop := visitsExactlyRow.holds Try.pinned (OpenSpec.ofChange visitsExactlySpec)

/-- ITS FALSE NEIGHBOUR: 'it returns false'. Refute it at one input. -/
def visitsExactlyWrong : ChangeSpec := { name := "visitsExactly", fn := fun _ => fun
  | [d1, d2, d3] => { results := [.lit (.bool false)], args := [d1, d2, d3] }
  | _ => none }
def VisitsExactlyWrongFalsely : Prop := visitsExactlyRow.holds Try.pinned (OpenSpec.ofChange visitsExactlyWrong)

/-- 'hansardlaw52.VisitsApart': WHATEVER THE INPUT: true; the input reads as it did. -/
def visitsApartSpec : ChangeSpec := { name := "visitsApart", fn := fun _ => fun
  | [d1, d2, d3, d4] => { results := [.lit (.bool true)], args := [d1, d2, d3, d4] }
  | _ => none }
def visitsApartRow : OpenClaim := { program := "ytchdoamoeccjkaa", sum := "daa3aa344a8ffe97f8375bc911d3b019c025a3438e8bed215995bb1ab5116965", func := "hansard/hansardlaw52.VisitsApart", spec := "visitsApart", unfollowed := true, recurses := true, apart := false }
def VisitsApartSaid : Prop := visitsApartRow.holds Try.pinned (OpenSpec.ofChange visitsApartSpec)

/-- ITS FALSE NEIGHBOUR: 'it returns false'. Refute it at one input. -/
def visitsApartWrong : ChangeSpec := { name := "visitsApart", fn := fun _ => fun
  | [d1, d2, d3, d4] => { results := [.lit (.bool false)], args := [d1, d2, d3, d4] }
  | _ => none }
def VisitsApartWrongFalsely : Prop := visitsApartRow.holds Try.pinned (OpenSpec.ofChange visitsApartWrong)

/- THE SECOND FORM. 'bulk': how many values and letters a reading holds, each counted each time it is reached (what is shared counts as often as it is met; a slice's spare places count too). A statement '..UptoSaid' is the law's where the arguments, and the package variables that the reading takes, are together of bulk at most 1048576: NARROWER than '..Said'. Prove '..Said' where nothing that the law and all that it calls make is longer than what came in: it says more and counts as full. Else prove '..UptoSaid'. A law counts once. -/
mutual
def uptoBulk {H : Type} : DataW H → Nat
  | .lit (.string bytes) => bytes.length + 1
  | .lit _ => 1
  | .nil => 1
  | .ptr d => uptoBulk d + 1
  | .slice elems spare => uptoBulkAll elems + uptoBulkAll spare + 1
  | .agg parts => uptoBulkAll parts + 1
  | .iface _ d => uptoBulk d + 1
  | .map entries => uptoBulkEntries entries + 1
  | .held _ => 1
def uptoBulkAll {H : Type} : List (DataW H) → Nat
  | [] => 0
  | d :: r => uptoBulk d + uptoBulkAll r
def uptoBulkEntries {H : Type} : List (Lit × DataW H) → Nat
  | [] => 0
  | x :: r => uptoBulkEntry x + uptoBulkEntries r
def uptoBulkEntry {H : Type} : Lit × DataW H → Nat
  | (.string bytes, d) => bytes.length + uptoBulk d + 1
  | (_, d) => uptoBulk d + 1
 end
def uptoSmall : (H : Type) → List (DataW H) → Bool := fun _ ds => decide (uptoBulkAll ds ≤ 1048576)
def OpenSpec.upto (s : _root_.Go.ChangeSpec) : _root_.Go.OpenSpec := { _root_.Go.OpenSpec.ofChange s with cond := some uptoSmall }

/-- 'hansardlaw52.VisitsSpec', WHERE WHAT IT READS IS OF BULK AT MOST 1048576: true; the input reads as it did. -/
def visitsSpecUptoRow : OpenClaim := { program := "ytchdoamoeccjkaa", sum := "daa3aa344a8ffe97f8375bc911d3b019c025a3438e8bed215995bb1ab5116965", func := "hansard/hansardlaw52.VisitsSpec", spec := "visitsSpec", unfollowed := true, recurses := true, apart := false, narrowed := true }
def VisitsSpecUptoSaid : Prop := visitsSpecUptoRow.holds Try.pinned (OpenSpec.upto visitsSpecSpec)

/-- 'hansardlaw52.VisitsSpansSpec', WHERE WHAT IT READS IS OF BULK AT MOST 1048576: true; the input reads as it did. -/
def visitsSpansSpecUptoRow : OpenClaim := { program := "ytchdoamoeccjkaa", sum := "daa3aa344a8ffe97f8375bc911d3b019c025a3438e8bed215995bb1ab5116965", func := "hansard/hansardlaw52.VisitsSpansSpec", spec := "visitsSpansSpec", unfollowed := true, recurses := true, apart := false, narrowed := true }
def VisitsSpansSpecUptoSaid : Prop := visitsSpansSpecUptoRow.holds Try.pinned (OpenSpec.upto visitsSpansSpecSpec)

/-- 'hansardlaw52.VisitsAlone', WHERE WHAT IT READS IS OF BULK AT MOST 1048576: true; the input reads as it did. -/
def visitsAloneUptoRow : OpenClaim := { program := "ytchdoamoeccjkaa", sum := "daa3aa344a8ffe97f8375bc911d3b019c025a3438e8bed215995bb1ab5116965", func := "hansard/hansardlaw52.VisitsAlone", spec := "visitsAlone", unfollowed := true, recurses := true, apart := false, narrowed := true }
def VisitsAloneUptoSaid : Prop := visitsAloneUptoRow.holds Try.pinned (OpenSpec.upto visitsAloneSpec)

/-- 'hansardlaw52.VisitsDo', WHERE WHAT IT READS IS OF BULK AT MOST 1048576: true; the input reads as it did. -/
def visitsDoUptoRow : OpenClaim := { program := "ytchdoamoeccjkaa", sum := "daa3aa344a8ffe97f8375bc911d3b019c025a3438e8bed215995bb1ab5116965", func := "hansard/hansardlaw52.VisitsDo", spec := "visitsDo", unfollowed := true, recurses := true, apart := false, narrowed := true }
def VisitsDoUptoSaid : Prop := visitsDoUptoRow.holds Try.pinned (OpenSpec.upto visitsDoSpec)

/-- 'hansardlaw46.RegionsSpec', WHERE WHAT IT READS IS OF BULK AT MOST 1048576: true; the input reads as it did. -/
def regionsSpecUptoRow : OpenClaim := { program := "ytchdoamoeccjkaa", sum := "daa3aa344a8ffe97f8375bc911d3b019c025a3438e8bed215995bb1ab5116965", func := "hansard/hansardlaw46.RegionsSpec", spec := "regionsSpec", unfollowed := true, recurses := true, apart := false, narrowed := true }
def RegionsSpecUptoSaid : Prop := regionsSpecUptoRow.holds Try.pinned (OpenSpec.upto regionsSpecSpec)

/-- 'hansardlaw46.RegionsDenySpec', WHERE WHAT IT READS IS OF BULK AT MOST 1048576: true; the input reads as it did. -/
def regionsDenySpecUptoRow : OpenClaim := { program := "ytchdoamoeccjkaa", sum := "daa3aa344a8ffe97f8375bc911d3b019c025a3438e8bed215995bb1ab5116965", func := "hansard/hansardlaw46.RegionsDenySpec", spec := "regionsDenySpec", unfollowed := true, recurses := true, apart := false, narrowed := true }
def RegionsDenySpecUptoSaid : Prop := regionsDenySpecUptoRow.holds Try.pinned (OpenSpec.upto regionsDenySpecSpec)

/-- 'hansardlaw46.RegionsEither', WHERE WHAT IT READS IS OF BULK AT MOST 1048576: true; the input reads as it did. -/
def regionsEitherUptoRow : OpenClaim := { program := "ytchdoamoeccjkaa", sum := "daa3aa344a8ffe97f8375bc911d3b019c025a3438e8bed215995bb1ab5116965", func := "hansard/hansardlaw46.RegionsEither", spec := "regionsEither", unfollowed := true, recurses := true, apart := false, narrowed := true }
def RegionsEitherUptoSaid : Prop := regionsEitherUptoRow.holds Try.pinned (OpenSpec.upto regionsEitherSpec)

/-- 'hansardlaw46.RegionsLowest', WHERE WHAT IT READS IS OF BULK AT MOST 1048576: true; the input reads as it did. -/
def regionsLowestUptoRow : OpenClaim := { program := "ytchdoamoeccjkaa", sum := "daa3aa344a8ffe97f8375bc911d3b019c025a3438e8bed215995bb1ab5116965", func := "hansard/hansardlaw46.RegionsLowest", spec := "regionsLowest", unfollowed := true, recurses := true, apart := false, narrowed := true }
def RegionsLowestUptoSaid : Prop := regionsLowestUptoRow.holds Try.pinned (OpenSpec.upto regionsLowestSpec)

/-- 'hansardlaw46.RegionsLess', WHERE WHAT IT READS IS OF BULK AT MOST 1048576: true; the input reads as it did. -/
def regionsLessUptoRow : OpenClaim := { program := "ytchdoamoeccjkaa", sum := "daa3aa344a8ffe97f8375bc911d3b019c025a3438e8bed215995bb1ab5116965", func := "hansard/hansardlaw46.RegionsLess", spec := "regionsLess", unfollowed := true, recurses := true, apart := false, narrowed := true }
def RegionsLessUptoSaid : Prop := regionsLessUptoRow.holds Try.pinned (OpenSpec.upto regionsLessSpec)

/-- 'hansardlaw52.VisitsExactly', WHERE WHAT IT READS IS OF BULK AT MOST 1048576: true; the input reads as it did. -/
def visitsExactlyUptoRow : OpenClaim := { program := "ytchdoamoeccjkaa", sum := "daa3aa344a8ffe97f8375bc911d3b019c025a3438e8bed215995bb1ab5116965", func := "hansard/hansardlaw52.VisitsExactly", spec := "visitsExactly", unfollowed := true, recurses := true, apart := false, narrowed := true }
def VisitsExactlyUptoSaid : Prop := visitsExactlyUptoRow.holds Try.pinned (OpenSpec.upto visitsExactlySpec)

/-- 'hansardlaw52.VisitsApart', WHERE WHAT IT READS IS OF BULK AT MOST 1048576: true; the input reads as it did. -/
def visitsApartUptoRow : OpenClaim := { program := "ytchdoamoeccjkaa", sum := "daa3aa344a8ffe97f8375bc911d3b019c025a3438e8bed215995bb1ab5116965", func := "hansard/hansardlaw52.VisitsApart", spec := "visitsApart", unfollowed := true, recurses := true, apart := false, narrowed := true }
def VisitsApartUptoSaid : Prop := visitsApartUptoRow.holds Try.pinned (OpenSpec.upto visitsApartSpec)

end Rows
end Go.Proofs.Ytchdoamoeccjkaa

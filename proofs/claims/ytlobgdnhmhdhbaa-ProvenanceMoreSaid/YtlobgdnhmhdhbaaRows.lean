/-
  No cell of these rows narrows 'for every input' (looked for: loops, veiled, ifaces, maps, wideKeys, modest, calm, conditions, laid).
  DERIVED. THE GIVEN ROWS OF THIS SEAT. 6 by the template 'for every input the law returns true; each argument reads behind the call as it read before'; 0 by the template 'total and deterministic' (their statements: YtlobgdnhmhdhbaaTotals.lean).
  GIVEN WITH THE SEED: the statements are not yours to turn. If you find one false, say at which input.
  Laid BY PROGRAM, IN A SANDBOX (cutbox-rows.mjs): the forced cells as the released guide's own fill.sh prints them over the translation 80857904ed5884b4… (all of the seat's roots in one cut). By AI agents, Wed Nov 11 2026. No macro, syntax, notation, axiom, sorry.
-/
import Derived.Test.YtlobgdnhmhdhbaaChecked
import GoSem.Claim
import GoSem.ClaimJoined
import GoSem.ClaimMapViews
import Derived.JoinedTies
import Derived.KernelRfl
namespace Go.Proofs.Ytlobgdnhmhdhbaa
/- THE CELL 'sum', in the pinned program and in every row, IS THE sha256 OF THE DUMP (.gsa) THAT YtlobgdnhmhdhbaaProg.lean LOADS. Nothing in Lean hashes anything: it is a label: what it is worth is what the hold of that sum in a sandbox is worth. -/
noncomputable def Try.pinned : Pinned := { name := "ytlobgdnhmhdhbaa", sum := "80857904ed5884b49b64fd572de7a27c4f2cd2543a83fd57b3de568289da2908", checked := Try.checked }
namespace Rows
def none {H : Type} : Left H := { results := [], args := [] }

/-- 'hansardlaw31.ProvenanceSpec': WHATEVER THE INPUT: true; the input reads as it did. -/
def provenanceSpecSpec : ChangeSpec := { name := "provenanceSpec", fn := fun _ => fun
  | [d1, d2, d3] => { results := [.lit (.bool true)], args := [d1, d2, d3] }
  | _ => none }
def provenanceSpecRow : OpenClaim := { program := "ytlobgdnhmhdhbaa", sum := "80857904ed5884b49b64fd572de7a27c4f2cd2543a83fd57b3de568289da2908", func := "hansard/hansardlaw31.ProvenanceSpec", spec := "provenanceSpec", unfollowed := true, recurses := true, apart := false }
def ProvenanceSpecSaid : Prop := provenanceSpecRow.holds Try.pinned (OpenSpec.ofChange provenanceSpecSpec)

/-- ITS FALSE NEIGHBOUR: 'it returns false'. Refute it at one input. -/
def provenanceSpecWrong : ChangeSpec := { name := "provenanceSpec", fn := fun _ => fun
  | [d1, d2, d3] => { results := [.lit (.bool false)], args := [d1, d2, d3] }
  | _ => none }
def ProvenanceSpecWrongFalsely : Prop := provenanceSpecRow.holds Try.pinned (OpenSpec.ofChange provenanceSpecWrong)

/-- 'hansardlaw31.ProvenanceReachSpec': WHATEVER THE INPUT: true; the input reads as it did. -/
def provenanceReachSpecSpec : ChangeSpec := { name := "provenanceReachSpec", fn := fun _ => fun
  | [d1, d2, d3] => { results := [.lit (.bool true)], args := [d1, d2, d3] }
  | _ => none }
def provenanceReachSpecRow : OpenClaim := { program := "ytlobgdnhmhdhbaa", sum := "80857904ed5884b49b64fd572de7a27c4f2cd2543a83fd57b3de568289da2908", func := "hansard/hansardlaw31.ProvenanceReachSpec", spec := "provenanceReachSpec", unfollowed := true, recurses := true, apart := false }
def ProvenanceReachSpecSaid : Prop := provenanceReachSpecRow.holds Try.pinned (OpenSpec.ofChange provenanceReachSpecSpec)

/-- ITS FALSE NEIGHBOUR: 'it returns false'. Refute it at one input. -/
def provenanceReachSpecWrong : ChangeSpec := { name := "provenanceReachSpec", fn := fun _ => fun
  | [d1, d2, d3] => { results := [.lit (.bool false)], args := [d1, d2, d3] }
  | _ => none }
def ProvenanceReachSpecWrongFalsely : Prop := provenanceReachSpecRow.holds Try.pinned (OpenSpec.ofChange provenanceReachSpecWrong)

/-- 'hansardlaw31.ProvenanceSteps': WHATEVER THE INPUT: true; the input reads as it did. -/
def provenanceStepsSpec : ChangeSpec := { name := "provenanceSteps", fn := fun _ => fun
  | [d1, d2, d3, d4, d5] => { results := [.lit (.bool true)], args := [d1, d2, d3, d4, d5] }
  | _ => none }
def provenanceStepsRow : OpenClaim := { program := "ytlobgdnhmhdhbaa", sum := "80857904ed5884b49b64fd572de7a27c4f2cd2543a83fd57b3de568289da2908", func := "hansard/hansardlaw31.ProvenanceSteps", spec := "provenanceSteps", unfollowed := true, recurses := true, apart := false }
def ProvenanceStepsSaid : Prop := provenanceStepsRow.holds Try.pinned (OpenSpec.ofChange provenanceStepsSpec)

/-- ITS FALSE NEIGHBOUR: 'it returns false'. Refute it at one input. -/
def provenanceStepsWrong : ChangeSpec := { name := "provenanceSteps", fn := fun _ => fun
  | [d1, d2, d3, d4, d5] => { results := [.lit (.bool false)], args := [d1, d2, d3, d4, d5] }
  | _ => none }
def ProvenanceStepsWrongFalsely : Prop := provenanceStepsRow.holds Try.pinned (OpenSpec.ofChange provenanceStepsWrong)

/-- 'hansardlaw31.ProvenanceBack': WHATEVER THE INPUT: true; the input reads as it did. -/
def provenanceBackSpec : ChangeSpec := { name := "provenanceBack", fn := fun _ => fun
  | [d1, d2, d3] => { results := [.lit (.bool true)], args := [d1, d2, d3] }
  | _ => none }
def provenanceBackRow : OpenClaim := { program := "ytlobgdnhmhdhbaa", sum := "80857904ed5884b49b64fd572de7a27c4f2cd2543a83fd57b3de568289da2908", func := "hansard/hansardlaw31.ProvenanceBack", spec := "provenanceBack", unfollowed := true, recurses := true, apart := false }
def ProvenanceBackSaid : Prop := provenanceBackRow.holds Try.pinned (OpenSpec.ofChange provenanceBackSpec)

/-- ITS FALSE NEIGHBOUR: 'it returns false'. Refute it at one input. -/
def provenanceBackWrong : ChangeSpec := { name := "provenanceBack", fn := fun _ => fun
  | [d1, d2, d3] => { results := [.lit (.bool false)], args := [d1, d2, d3] }
  | _ => none }
def ProvenanceBackWrongFalsely : Prop := provenanceBackRow.holds Try.pinned (OpenSpec.ofChange provenanceBackWrong)

/-- 'hansardlaw31.ProvenanceThree': WHATEVER THE INPUT: true; the input reads as it did. -/
def provenanceThreeSpec : ChangeSpec := { name := "provenanceThree", fn := fun _ => fun
  | [d1, d2, d3, d4] => { results := [.lit (.bool true)], args := [d1, d2, d3, d4] }
  | _ => none }
def provenanceThreeRow : OpenClaim := { program := "ytlobgdnhmhdhbaa", sum := "80857904ed5884b49b64fd572de7a27c4f2cd2543a83fd57b3de568289da2908", func := "hansard/hansardlaw31.ProvenanceThree", spec := "provenanceThree", unfollowed := true, recurses := true, apart := false }
def ProvenanceThreeSaid : Prop := provenanceThreeRow.holds Try.pinned (OpenSpec.ofChange provenanceThreeSpec)

/-- ITS FALSE NEIGHBOUR: 'it returns false'. Refute it at one input. -/
def provenanceThreeWrong : ChangeSpec := { name := "provenanceThree", fn := fun _ => fun
  | [d1, d2, d3, d4] => { results := [.lit (.bool false)], args := [d1, d2, d3, d4] }
  | _ => none }
def ProvenanceThreeWrongFalsely : Prop := provenanceThreeRow.holds Try.pinned (OpenSpec.ofChange provenanceThreeWrong)

/-- 'hansardlaw31.ProvenanceMore': WHATEVER THE INPUT: true; the input reads as it did. -/
def provenanceMoreSpec : ChangeSpec := { name := "provenanceMore", fn := fun _ => fun
  | [d1, d2, d3] => { results := [.lit (.bool true)], args := [d1, d2, d3] }
  | _ => none }
def provenanceMoreRow : OpenClaim := { program := "ytlobgdnhmhdhbaa", sum := "80857904ed5884b49b64fd572de7a27c4f2cd2543a83fd57b3de568289da2908", func := "hansard/hansardlaw31.ProvenanceMore", spec := "provenanceMore", unfollowed := true, recurses := true, apart := false }
def ProvenanceMoreSaid : Prop := provenanceMoreRow.holds Try.pinned (OpenSpec.ofChange provenanceMoreSpec)

/-- ITS FALSE NEIGHBOUR: 'it returns false'. Refute it at one input. -/
def provenanceMoreWrong : ChangeSpec := { name := "provenanceMore", fn := fun _ => fun
  | [d1, d2, d3] => { results := [.lit (.bool false)], args := [d1, d2, d3] }
  | _ => none }
def ProvenanceMoreWrongFalsely : Prop := provenanceMoreRow.holds Try.pinned (OpenSpec.ofChange provenanceMoreWrong)

/- THE SECOND FORM. 'bulk': how many values and letters a reading holds, each counted each time it is reached (what is shared counts as often as it is met; a slice's spare places count too). A statement '..UptoSaid' is the law's where the arguments, and the package variables that the reading takes, are together of bulk at most 1048576: NARROWER than '..Said'. Prove '..Said' where nothing that the law and all that it calls make is longer than what came in: it says more and counts as full. Else prove '..UptoSaid'. A law counts once. -/
mutual
def uptoBulk {H : Type} : DataW H → Nat
  | .lit (.string bytes) => bytes.length + 1
  | .lit _ => 1
  | .nil => 1
  | .ptr d => uptoBulk d + 1
  | .slice elems spare => uptoBulkAll elems + uptoBulkAll spare + 1
  | .agg parts => uptoBulkAll parts + 1
  | .iface _ d => uptoBulk d + 1
  | .map entries => uptoBulkEntries entries + 1
  | .held _ => 1
def uptoBulkAll {H : Type} : List (DataW H) → Nat
  | [] => 0
  | d :: r => uptoBulk d + uptoBulkAll r
def uptoBulkEntries {H : Type} : List (Lit × DataW H) → Nat
  | [] => 0
  | x :: r => uptoBulkEntry x + uptoBulkEntries r
def uptoBulkEntry {H : Type} : Lit × DataW H → Nat
  | (.string bytes, d) => bytes.length + uptoBulk d + 1
  | (_, d) => uptoBulk d + 1
 end
def uptoSmall : (H : Type) → List (DataW H) → Bool := fun _ ds => decide (uptoBulkAll ds ≤ 1048576)
def OpenSpec.upto (s : _root_.Go.ChangeSpec) : _root_.Go.OpenSpec := { _root_.Go.OpenSpec.ofChange s with cond := some uptoSmall }

/-- 'hansardlaw31.ProvenanceSpec', WHERE WHAT IT READS IS OF BULK AT MOST 1048576: true; the input reads as it did. -/
def provenanceSpecUptoRow : OpenClaim := { program := "ytlobgdnhmhdhbaa", sum := "80857904ed5884b49b64fd572de7a27c4f2cd2543a83fd57b3de568289da2908", func := "hansard/hansardlaw31.ProvenanceSpec", spec := "provenanceSpec", unfollowed := true, recurses := true, apart := false, narrowed := true }
def ProvenanceSpecUptoSaid : Prop := provenanceSpecUptoRow.holds Try.pinned (OpenSpec.upto provenanceSpecSpec)

/-- 'hansardlaw31.ProvenanceReachSpec', WHERE WHAT IT READS IS OF BULK AT MOST 1048576: true; the input reads as it did. -/
def provenanceReachSpecUptoRow : OpenClaim := { program := "ytlobgdnhmhdhbaa", sum := "80857904ed5884b49b64fd572de7a27c4f2cd2543a83fd57b3de568289da2908", func := "hansard/hansardlaw31.ProvenanceReachSpec", spec := "provenanceReachSpec", unfollowed := true, recurses := true, apart := false, narrowed := true }
def ProvenanceReachSpecUptoSaid : Prop := provenanceReachSpecUptoRow.holds Try.pinned (OpenSpec.upto provenanceReachSpecSpec)

/-- 'hansardlaw31.ProvenanceSteps', WHERE WHAT IT READS IS OF BULK AT MOST 1048576: true; the input reads as it did. -/
def provenanceStepsUptoRow : OpenClaim := { program := "ytlobgdnhmhdhbaa", sum := "80857904ed5884b49b64fd572de7a27c4f2cd2543a83fd57b3de568289da2908", func := "hansard/hansardlaw31.ProvenanceSteps", spec := "provenanceSteps", unfollowed := true, recurses := true, apart := false, narrowed := true }
def ProvenanceStepsUptoSaid : Prop := provenanceStepsUptoRow.holds Try.pinned (OpenSpec.upto provenanceStepsSpec)

/-- 'hansardlaw31.ProvenanceBack', WHERE WHAT IT READS IS OF BULK AT MOST 1048576: true; the input reads as it did. -/
def provenanceBackUptoRow : OpenClaim := { program := "ytlobgdnhmhdhbaa", sum := "80857904ed5884b49b64fd572de7a27c4f2cd2543a83fd57b3de568289da2908", func := "hansard/hansardlaw31.ProvenanceBack", spec := "provenanceBack", unfollowed := true, recurses := true, apart := false, narrowed := true }
def ProvenanceBackUptoSaid : Prop := provenanceBackUptoRow.holds Try.pinned (OpenSpec.upto provenanceBackSpec)

/-- 'hansardlaw31.ProvenanceThree', WHERE WHAT IT READS IS OF BULK AT MOST 1048576: true; the input reads as it did. -/
def provenanceThreeUptoRow : OpenClaim := { program := "ytlobgdnhmhdhbaa", sum := "80857904ed5884b49b64fd572de7a27c4f2cd2543a83fd57b3de568289da2908", func := "hansard/hansardlaw31.ProvenanceThree", spec := "provenanceThree", unfollowed := true, recurses := true, apart := false, narrowed := true }
def ProvenanceThreeUptoSaid : Prop := provenanceThreeUptoRow.holds Try.pinned (OpenSpec.upto provenanceThreeSpec)

/-- 'hansardlaw31.ProvenanceMore', WHERE WHAT IT READS IS OF BULK AT MOST 1048576: true; the input reads as it did. -/
def provenanceMoreUptoRow : OpenClaim := { program := "ytlobgdnhmhdhbaa", sum := "80857904ed5884b49b64fd572de7a27c4f2cd2543a83fd57b3de568289da2908", func := "hansard/hansardlaw31.ProvenanceMore", spec := "provenanceMore", unfollowed := true, recurses := true, apart := false, narrowed := true }
def ProvenanceMoreUptoSaid : Prop := provenanceMoreUptoRow.holds Try.pinned (OpenSpec.upto provenanceMoreSpec)

end Rows
end Go.Proofs.Ytlobgdnhmhdhbaa

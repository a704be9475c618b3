/-
  No cell of these rows narrows 'for every input' (looked for: loops, veiled, ifaces, maps, wideKeys, modest, calm, conditions, laid).
  DERIVED. THE GIVEN ROWS OF THIS SEAT. 6 by the template 'for every input the law returns true; each argument reads behind the call as it read before'; 0 by the template 'total and deterministic' (their statements: YtbifppncjplebaaTotals.lean).
  GIVEN WITH THE SEED: the statements are not yours to turn. If you find one false, say at which input.
  Laid BY PROGRAM, IN A SANDBOX (cutbox-rows.mjs): the forced cells as the released guide's own fill.sh prints them over the translation 0f382cdd13852321… (all of the seat's roots in one cut). By AI agents, Wed Nov 11 2026. No macro, syntax, notation, axiom, sorry.
-/
import Derived.Test.YtbifppncjplebaaChecked
import GoSem.Claim
import GoSem.ClaimJoined
import GoSem.ClaimMapViews
import Derived.JoinedTies
import Derived.KernelRfl
namespace Go.Proofs.Ytbifppncjplebaa
/- THE CELL 'sum', in the pinned program and in every row, IS THE sha256 OF THE DUMP (.gsa) THAT YtbifppncjplebaaProg.lean LOADS. Nothing in Lean hashes anything: it is a label: what it is worth is what the hold of that sum in a sandbox is worth. -/
noncomputable def Try.pinned : Pinned := { name := "ytbifppncjplebaa", sum := "0f382cdd138523219f3cc29cbc731a10f2c62789296cae36ebba899e77c59f55", checked := Try.checked }
namespace Rows
def none {H : Type} : Left H := { results := [], args := [] }

/-- 'hansardlaw14.FramesSpec': WHATEVER THE INPUT: true; the input reads as it did. -/
def framesSpecSpec : ChangeSpec := { name := "framesSpec", fn := fun _ => fun
  | [d1, d2, d3] => { results := [.lit (.bool true)], args := [d1, d2, d3] }
  | _ => none }
def framesSpecRow : OpenClaim := { program := "ytbifppncjplebaa", sum := "0f382cdd138523219f3cc29cbc731a10f2c62789296cae36ebba899e77c59f55", func := "hansard/hansardlaw14.FramesSpec", spec := "framesSpec", unfollowed := true, recurses := true, apart := false }
def FramesSpecSaid : Prop := framesSpecRow.holds Try.pinned (OpenSpec.ofChange framesSpecSpec)

/-- ITS FALSE NEIGHBOUR: 'it returns false'. Refute it at one input. -/
def framesSpecWrong : ChangeSpec := { name := "framesSpec", fn := fun _ => fun
  | [d1, d2, d3] => { results := [.lit (.bool false)], args := [d1, d2, d3] }
  | _ => none }
def FramesSpecWrongFalsely : Prop := framesSpecRow.holds Try.pinned (OpenSpec.ofChange framesSpecWrong)

/-- 'hansardlaw14.FramesTimeSpec': WHATEVER THE INPUT: true; the input reads as it did. -/
def framesTimeSpecSpec : ChangeSpec := { name := "framesTimeSpec", fn := fun _ => fun
  | [d1, d2, d3] => { results := [.lit (.bool true)], args := [d1, d2, d3] }
  | _ => none }
def framesTimeSpecRow : OpenClaim := { program := "ytbifppncjplebaa", sum := "0f382cdd138523219f3cc29cbc731a10f2c62789296cae36ebba899e77c59f55", func := "hansard/hansardlaw14.FramesTimeSpec", spec := "framesTimeSpec", unfollowed := true, recurses := true, apart := false }
def FramesTimeSpecSaid : Prop := framesTimeSpecRow.holds Try.pinned (OpenSpec.ofChange framesTimeSpecSpec)

/-- ITS FALSE NEIGHBOUR: 'it returns false'. Refute it at one input. -/
def framesTimeSpecWrong : ChangeSpec := { name := "framesTimeSpec", fn := fun _ => fun
  | [d1, d2, d3] => { results := [.lit (.bool false)], args := [d1, d2, d3] }
  | _ => none }
def FramesTimeSpecWrongFalsely : Prop := framesTimeSpecRow.holds Try.pinned (OpenSpec.ofChange framesTimeSpecWrong)

/-- 'hansardlaw14.FramesBack': WHATEVER THE INPUT: true; the input reads as it did. -/
def framesBackSpec : ChangeSpec := { name := "framesBack", fn := fun _ => fun
  | [d1, d2, d3, d4] => { results := [.lit (.bool true)], args := [d1, d2, d3, d4] }
  | _ => none }
def framesBackRow : OpenClaim := { program := "ytbifppncjplebaa", sum := "0f382cdd138523219f3cc29cbc731a10f2c62789296cae36ebba899e77c59f55", func := "hansard/hansardlaw14.FramesBack", spec := "framesBack", unfollowed := true, recurses := true, apart := false }
def FramesBackSaid : Prop := framesBackRow.holds Try.pinned (OpenSpec.ofChange framesBackSpec)

/-- ITS FALSE NEIGHBOUR: 'it returns false'. Refute it at one input. -/
def framesBackWrong : ChangeSpec := { name := "framesBack", fn := fun _ => fun
  | [d1, d2, d3, d4] => { results := [.lit (.bool false)], args := [d1, d2, d3, d4] }
  | _ => none }
def FramesBackWrongFalsely : Prop := framesBackRow.holds Try.pinned (OpenSpec.ofChange framesBackWrong)

/-- 'hansardlaw14.FramesNext': WHATEVER THE INPUT: true; the input reads as it did. -/
def framesNextSpec : ChangeSpec := { name := "framesNext", fn := fun _ => fun
  | [d1, d2] => { results := [.lit (.bool true)], args := [d1, d2] }
  | _ => none }
def framesNextRow : OpenClaim := { program := "ytbifppncjplebaa", sum := "0f382cdd138523219f3cc29cbc731a10f2c62789296cae36ebba899e77c59f55", func := "hansard/hansardlaw14.FramesNext", spec := "framesNext", unfollowed := true, recurses := true, apart := false }
def FramesNextSaid : Prop := framesNextRow.holds Try.pinned (OpenSpec.ofChange framesNextSpec)

/-- ITS FALSE NEIGHBOUR: 'it returns false'. Refute it at one input. -/
def framesNextWrong : ChangeSpec := { name := "framesNext", fn := fun _ => fun
  | [d1, d2] => { results := [.lit (.bool false)], args := [d1, d2] }
  | _ => none }
def FramesNextWrongFalsely : Prop := framesNextRow.holds Try.pinned (OpenSpec.ofChange framesNextWrong)

/-- 'hansardlaw14.FramesAt': WHATEVER THE INPUT: true; the input reads as it did. -/
def framesAtSpec : ChangeSpec := { name := "framesAt", fn := fun _ => fun
  | [d1, d2, d3] => { results := [.lit (.bool true)], args := [d1, d2, d3] }
  | _ => none }
def framesAtRow : OpenClaim := { program := "ytbifppncjplebaa", sum := "0f382cdd138523219f3cc29cbc731a10f2c62789296cae36ebba899e77c59f55", func := "hansard/hansardlaw14.FramesAt", spec := "framesAt", unfollowed := true, recurses := true, apart := false }
def FramesAtSaid : Prop := framesAtRow.holds Try.pinned (OpenSpec.ofChange framesAtSpec)

/-- ITS FALSE NEIGHBOUR: 'it returns false'. Refute it at one input. -/
def framesAtWrong : ChangeSpec := { name := "framesAt", fn := fun _ => fun
  | [d1, d2, d3] => { results := [.lit (.bool false)], args := [d1, d2, d3] }
  | _ => none }
def FramesAtWrongFalsely : Prop := framesAtRow.holds Try.pinned (OpenSpec.ofChange framesAtWrong)

/-- 'hansardlaw14.FramesTenth': WHATEVER THE INPUT: true; the input reads as it did. -/
def framesTenthSpec : ChangeSpec := { name := "framesTenth", fn := fun _ => fun
  | [d1, d2, d3] => { results := [.lit (.bool true)], args := [d1, d2, d3] }
  | _ => none }
def framesTenthRow : OpenClaim := { program := "ytbifppncjplebaa", sum := "0f382cdd138523219f3cc29cbc731a10f2c62789296cae36ebba899e77c59f55", func := "hansard/hansardlaw14.FramesTenth", spec := "framesTenth", unfollowed := true, recurses := true, apart := false }
def FramesTenthSaid : Prop := framesTenthRow.holds Try.pinned (OpenSpec.ofChange framesTenthSpec)

/-- ITS FALSE NEIGHBOUR: 'it returns false'. Refute it at one input. -/
def framesTenthWrong : ChangeSpec := { name := "framesTenth", fn := fun _ => fun
  | [d1, d2, d3] => { results := [.lit (.bool false)], args := [d1, d2, d3] }
  | _ => none }
def FramesTenthWrongFalsely : Prop := framesTenthRow.holds Try.pinned (OpenSpec.ofChange framesTenthWrong)

/- THE SECOND FORM. 'bulk': how many values and letters a reading holds, each counted each time it is reached (what is shared counts as often as it is met; a slice's spare places count too). A statement '..UptoSaid' is the law's where the arguments, and the package variables that the reading takes, are together of bulk at most 1048576: NARROWER than '..Said'. Prove '..Said' where nothing that the law and all that it calls make is longer than what came in: it says more and counts as full. Else prove '..UptoSaid'. A law counts once. -/
mutual
def uptoBulk {H : Type} : DataW H → Nat
  | .lit (.string bytes) => bytes.length + 1
  | .lit _ => 1
  | .nil => 1
  | .ptr d => uptoBulk d + 1
  | .slice elems spare => uptoBulkAll elems + uptoBulkAll spare + 1
  | .agg parts => uptoBulkAll parts + 1
  | .iface _ d => uptoBulk d + 1
  | .map entries => uptoBulkEntries entries + 1
  | .held _ => 1
def uptoBulkAll {H : Type} : List (DataW H) → Nat
  | [] => 0
  | d :: r => uptoBulk d + uptoBulkAll r
def uptoBulkEntries {H : Type} : List (Lit × DataW H) → Nat
  | [] => 0
  | x :: r => uptoBulkEntry x + uptoBulkEntries r
def uptoBulkEntry {H : Type} : Lit × DataW H → Nat
  | (.string bytes, d) => bytes.length + uptoBulk d + 1
  | (_, d) => uptoBulk d + 1
 end
def uptoSmall : (H : Type) → List (DataW H) → Bool := fun _ ds => decide (uptoBulkAll ds ≤ 1048576)
def OpenSpec.upto (s : _root_.Go.ChangeSpec) : _root_.Go.OpenSpec := { _root_.Go.OpenSpec.ofChange s with cond := some uptoSmall }

/-- 'hansardlaw14.FramesSpec', WHERE WHAT IT READS IS OF BULK AT MOST 1048576: true; the input reads as it did. -/
def framesSpecUptoRow : OpenClaim := { program := "ytbifppncjplebaa", sum := "0f382cdd138523219f3cc29cbc731a10f2c62789296cae36ebba899e77c59f55", func := "hansard/hansardlaw14.FramesSpec", spec := "framesSpec", unfollowed := true, recurses := true, apart := false, narrowed := true }
def FramesSpecUptoSaid : Prop := framesSpecUptoRow.holds Try.pinned (OpenSpec.upto framesSpecSpec)

/-- 'hansardlaw14.FramesTimeSpec', WHERE WHAT IT READS IS OF BULK AT MOST 1048576: true; the input reads as it did. -/
def framesTimeSpecUptoRow : OpenClaim := { program := "ytbifppncjplebaa", sum := "0f382cdd138523219f3cc29cbc731a10f2c62789296cae36ebba899e77c59f55", func := "hansard/hansardlaw14.FramesTimeSpec", spec := "framesTimeSpec", unfollowed := true, recurses := true, apart := false, narrowed := true }
def FramesTimeSpecUptoSaid : Prop := framesTimeSpecUptoRow.holds Try.pinned (OpenSpec.upto framesTimeSpecSpec)

/-- 'hansardlaw14.FramesBack', WHERE WHAT IT READS IS OF BULK AT MOST 1048576: true; the input reads as it did. -/
def framesBackUptoRow : OpenClaim := { program := "ytbifppncjplebaa", sum := "0f382cdd138523219f3cc29cbc731a10f2c62789296cae36ebba899e77c59f55", func := "hansard/hansardlaw14.FramesBack", spec := "framesBack", unfollowed := true, recurses := true, apart := false, narrowed := true }
def FramesBackUptoSaid : Prop := framesBackUptoRow.holds Try.pinned (OpenSpec.upto framesBackSpec)

/-- 'hansardlaw14.FramesNext', WHERE WHAT IT READS IS OF BULK AT MOST 1048576: true; the input reads as it did. -/
def framesNextUptoRow : OpenClaim := { program := "ytbifppncjplebaa", sum := "0f382cdd138523219f3cc29cbc731a10f2c62789296cae36ebba899e77c59f55", func := "hansard/hansardlaw14.FramesNext", spec := "framesNext", unfollowed := true, recurses := true, apart := false, narrowed := true }
def FramesNextUptoSaid : Prop := framesNextUptoRow.holds Try.pinned (OpenSpec.upto framesNextSpec)

/-- 'hansardlaw14.FramesAt', WHERE WHAT IT READS IS OF BULK AT MOST 1048576: true; the input reads as it did. -/
def framesAtUptoRow : OpenClaim := { program := "ytbifppncjplebaa", sum := "0f382cdd138523219f3cc29cbc731a10f2c62789296cae36ebba899e77c59f55", func := "hansard/hansardlaw14.FramesAt", spec := "framesAt", unfollowed := true, recurses := true, apart := false, narrowed := true }
def FramesAtUptoSaid : Prop := framesAtUptoRow.holds Try.pinned (OpenSpec.upto framesAtSpec)

/-- 'hansardlaw14.FramesTenth', WHERE WHAT IT READS IS OF BULK AT MOST 1048576: true; the input reads as it did. -/
def framesTenthUptoRow : OpenClaim := { program := "ytbifppncjplebaa", sum := "0f382cdd138523219f3cc29cbc731a10f2c62789296cae36ebba899e77c59f55", func := "hansard/hansardlaw14.FramesTenth", spec := "framesTenth", unfollowed := true, recurses := true, apart := false, narrowed := true }
def FramesTenthUptoSaid : Prop := framesTenthUptoRow.holds Try.pinned (OpenSpec.upto framesTenthSpec)

end Rows
end Go.Proofs.Ytbifppncjplebaa

/-
  DERIVED. GIVEN WITH THE SEED: THE CARDS: each row of YtkfdafeonhnloaaGreatDoorRows.lean that lists a variable, with what it lists TIED to the program's text (the seventh form; the later family's looks); each row that meets fmt, with fmt's text TOLD by the authors' own Lean function (tested against real Go, not proved from fmt's source: count such statements apart). THE CARD IS WHAT COUNTS. Prove the row's statement (the work); the ties are given (YtkfdafeonhnloaaGreatDoorTie.lean); close each card by the builder's one call (the guide's Derived/Test/ToyasCard.lean, 'card_holds'). Laid BY PROGRAM, IN A SANDBOX (cutbox-door.mjs). By AI agents, Wed Nov 11 2026. No macro, syntax, notation, axiom, sorry.
-/
import Derived.Test.YtkfdafeonhnloaaGreatDoorRows
import GoSem.ClaimSeven
namespace Go.Proofs.YtkfdafeonhnloaaGreatDoor
namespace Rows

/-- THE TIED CARD OF 'hansardtop.TopProvenance'. -/
def topProvenanceCard : Claim7 := { stood := { row := topProvenanceRow, standIns := [], harness := (true, "9a481719a41ff17a60c2ce95b2ffee59865217bc6869d34f0d436da1b0b519bb"), looks := true }, kinds := [], alts := [], laidByText := true, laidKinds := [.data, .listed, .data, .pinned], laidTests := true, laidLooks := .later }
def TopProvenanceCardSaid : Prop := Claim7.holds Tryz.pinned (.plain (OpenSpec.ofChange topProvenanceSpec)) topProvenanceCard

/-- THE SECOND FORM's CARD OF 'hansardtop.TopProvenance'. -/
def topProvenanceUptoCard : Claim7 := { stood := { row := topProvenanceUptoRow, standIns := [], harness := (true, "9a481719a41ff17a60c2ce95b2ffee59865217bc6869d34f0d436da1b0b519bb"), looks := true }, kinds := [], alts := [], laidByText := true, laidKinds := [.data, .listed, .data, .pinned], laidTests := true, laidLooks := .later }
def TopProvenanceUptoCardSaid : Prop := Claim7.holds Tryz.pinned (.plain (OpenSpec.upto topProvenanceSpec)) topProvenanceUptoCard
end Rows
end Go.Proofs.YtkfdafeonhnloaaGreatDoor

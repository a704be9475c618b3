/-
 TopProvenance: the tied card.
-/
import Derived.Test.YtkfdafeonhnloaaGreatDoorGM30
import Derived.Test.YtkfdafeonhnloaaGreatDoorCards
import Derived.Test.YtkfdafeonhnloaaGreatDoorTie
import Derived.SevenTiedAt
namespace Go.Proofs.YtkfdafeonhnloaaGreatDoor
open Go
set_option maxRecDepth 100000
theorem topProvenance_card_holds : Rows.TopProvenanceCardSaid :=
 Claim7.holds_tied_plain_at .later [] [.data, .listed, .data, .pinned] true (true, "9a481719a41ff17a60c2ce95b2ffee59865217bc6869d34f0d436da1b0b519bb") true
  topProvenance_holds (fun _ h => by cases h) (by kernel_rfl) (fun _ h => by cases h) topProvenance_row_tie rfl ⟨rfl, rfl⟩ (by kernel_rfl) rfl
  (fun f fn hf hfn => by
   obtain rfl : f = 3 := Option.some.inj ((show Tryz.prog.funcNamed "hansard/hansardtop.TopProvenance" = some 3 by kernel_rfl).symm.trans hf) |>.symm
   obtain rfl : fn = Tryz.f3 := (Option.some.inj (Tryz.func3.symm.trans hfn)).symm
   exact ⟨by kernel_rfl, fun j t ht => by
    rw [Tryz.params3] at ht
    have hm : t ∈ [26, 27, 3, 22, 3, 3, 5, 9, 28] := by simpa using Array.mem_of_getElem? ht
    have hall : ([26, 27, 3, 22, 3, 3, 5, 9, 28].all fun u => !Tryz.prog.wantsStandIn u) = true := by kernel_rfl
    exact (show Tryz.prog.wantsStandIn t = false by simpa using List.all_eq_true.1 hall t hm)⟩)
  (by kernel_rfl)
#print axioms topProvenance_card_holds
end Go.Proofs.YtkfdafeonhnloaaGreatDoor

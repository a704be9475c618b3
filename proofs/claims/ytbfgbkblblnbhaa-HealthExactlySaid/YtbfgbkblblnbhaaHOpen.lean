/-
  A beat as a law's argument.
-/
import Derived.Test.YtbfgbkblblnbhaaLift3
import Derived.Test.YtbfgbkblblnbhaaHealthSpecLaw
namespace Go.Proofs.Ytbfgbkblblnbhaa
open Go.RowKit Go.Mine Go.ChangeShapes Go.WideShapes Go.ChangeAt
noncomputable def fieldsOf (t : TypeId) : Array Field := match Try.prog.underlying t with | some (.struct fs) => fs | _ => #[]
theorem open_beat {H : Type} {enc : TypeId × Value → H} {w : World} {base b0 : Nat} {held : Bool} {r : Reach} {v : Value} {d : DataW H} {ps : List MemPlace}
    (hv : Value.okWide Try.prog w r b0 41 v) (h : DataW.Trod enc Try.prog w base (fun _ => true) held 41 v d ps) : ∃ (a b : Int), v = .agg #[.int .i64 a, .int .i64 b] := by
  obtain ⟨cs, rfl, hl, hf⟩ := open_flat (fs := fieldsOf 41) (by kernel_rfl) (by kernel_rfl) (by kernel_rfl) hv h
  have hsz : (fieldsOf 41).size = 2 := by kernel_rfl
  obtain ⟨a, h0, _⟩ := flat_int hf (j := 0) (f := (fieldsOf 41)[0]'(by rw [hsz]; decide)) (Array.getElem?_eq_getElem _) (t := 3) (by kernel_rfl) Try.underlying3
  obtain ⟨b, h1, _⟩ := flat_int hf (j := 1) (f := (fieldsOf 41)[1]'(by rw [hsz]; decide)) (Array.getElem?_eq_getElem _) (t := 3) (by kernel_rfl) Try.underlying3
  rw [hsz] at hl
  match cs, hl with
  | [a0, a1], _ =>
    simp at h0 h1
    subst h0 h1
    exact ⟨a, b, rfl⟩
end Go.Proofs.Ytbfgbkblblnbhaa

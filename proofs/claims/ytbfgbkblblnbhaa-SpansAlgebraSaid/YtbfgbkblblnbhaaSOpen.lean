/-
  Lists of spans as a law's arguments.
-/
import Derived.Test.YtbfgbkblblnbhaaHOpen
import Derived.Test.YtbfgbkblblnbhaaSPure3
namespace Go.Proofs.Ytbfgbkblblnbhaa
open Go.RowKit Go.Mine Go.Mine.H Go.Mine.S Go.ChangeShapes Go.WideShapes Go.ChangeAt
theorem open_spans {H : Type} {enc : TypeId × Value → H} {w : World} {base b0 : Nat} {held : Bool} {r : Reach} {v : Value} {d : DataW H} {ps : List MemPlace}
    (hv : Value.okWide Try.prog w r b0 30 v) (h : DataW.Trod enc Try.prog w base (fun _ => true) held 30 v d ps) :
    ∃ (A : Option Addr) (c : Nat) (l : List Sp), v = .slice A l.length c ∧ Sl bc 2 w A c l := by
  obtain ⟨A, c, l, rfl, hS, hl⟩ := open_sl (fs := (match Try.prog.underlying 62 with | some (.struct fs) => fs | _ => #[])) Try.underlying30 (by kernel_rfl) (by kernel_rfl) (by kernel_rfl) (by decide +kernel) (by kernel_rfl) hv h
  have h2 : (match Try.prog.underlying 62 with | some (.struct fs) => fs | _ => #[]).size = 2 := by kernel_rfl
  rw [h2] at hS hl
  refine ⟨A, c, l.map toBeat, by simp, hS.as toBeat (fun x hx => ?_)⟩
  obtain ⟨a, b, rfl⟩ : ∃ a b, x = [a, b] := by
    have := (hl x hx).1
    match x, this with
    | [a, b], _ => exact ⟨a, b, rfl⟩
  rfl
end Go.Proofs.Ytbfgbkblblnbhaa

/-
  The laws' arguments: relations and lists of numbers; what calls hand back, as lists.
-/
import Derived.Test.YtlobgdnhmhdhbaaPSane
namespace Go.Proofs.Ytlobgdnhmhdhbaa
open Go.RowKit Go.Shelf Go.Mine Go.ChangeShapes Go.WideShapes Go.ChangeAt

theorem Try.own : ownKnob Try.prog.godebug = none := by kernel_rfl
theorem Try.laidOut : laidOutB Try.prog = true := by kernel_rfl
theorem open_rel31 {H : Type} {enc : TypeId × Value → H} {w : World} {base b0 : Nat} {held : Bool} {r : Reach} {v : Value} {d : DataW H} {ps : List MemPlace}
    (hv : Value.okWide Try.prog w r b0 22 v) (h : DataW.Trod enc Try.prog w base (fun _ => true) held 22 v d ps) : ∃ (A : Option Addr) (c : Nat) (l : List (List Int)), v = .slice A l.length c ∧ Rel w A c l := by
  obtain ⟨A, c, ls, rfl, hR, _⟩ := open_rel (t1 := 31) (e := 3) Try.underlying22 (by kernel_rfl) Try.underlying31 (by kernel_rfl) Try.underlying3 hv h
  exact ⟨A, c, ls, rfl, hR⟩
theorem open_is31 {H : Type} {enc : TypeId × Value → H} {w : World} {base b0 : Nat} {held : Bool} {r : Reach} {v : Value} {d : DataW H} {ps : List MemPlace}
    (hv : Value.okWide Try.prog w r b0 31 v) (h : DataW.Trod enc Try.prog w base (fun _ => true) held 31 v d ps) : ∃ (A : Option Addr) (c : Nat) (l : List Int), v = .slice A l.length c ∧ Sl ic 1 w A c l := by
  obtain ⟨A, c, ls, rfl, hR, _⟩ := open_is (e := 3) Try.underlying31 (by kernel_rfl) Try.underlying3 hv h
  exact ⟨A, c, ls, rfl, hR⟩
theorem reach16_sl (A B : Option Addr) (c d : Nat) (r : List (List Int)) (n : Int) (l : List Int) (w : World) (hR : Rel w A c r) (hL : Sl ic 1 w B d l) :
    Calls Try.prog 16 #[.slice A r.length c, .int .i64 n, .slice B l.length d] w fun e w' => ∃ A2 c2, e = .returned (.tuple #[.slice A2 (P.reachL r n l).length c2, .int .i64 (P.argE r n n l)]) ∧ Sl ic 1 w' A2 c2 (P.reachL r n l) ∧ Below w.heap.size w w' := by
  refine (reach16_any A B c d r n l w hR hL).mono ?_
  rintro e w' ⟨v, rfl, hO, hb⟩
  obtain ⟨A2, c2, rfl, h⟩ := hO.sl
  exact ⟨A2, c2, rfl, h, hb⟩
theorem reach17_sl (A B : Option Addr) (c d : Nat) (r : List (List Int)) (n : Int) (l : List Int) (w : World) (hR : Rel w A c r) (hL : Sl ic 1 w B d l) :
    Calls Try.prog 17 #[.slice A r.length c, .int .i64 n, .slice B l.length d] w fun e w' => ∃ A2 c2, e = .returned (.tuple #[.slice A2 (P.reachL r n l).length c2, .int .i64 (P.argE r n n l)]) ∧ Sl ic 1 w' A2 c2 (P.reachL r n l) ∧ Below w.heap.size w w' := by
  refine (refReach17_any A B c d r n l w hR hL).mono ?_
  rintro e w' ⟨v, rfl, hO, hb⟩
  obtain ⟨A2, c2, rfl, h⟩ := hO.sl
  exact ⟨A2, c2, rfl, h, hb⟩
theorem back18_sl (A B : Option Addr) (c d : Nat) (r : List (List Int)) (n : Int) (l : List Int) (w : World) (hR : Rel w A c r) (hL : Sl ic 1 w B d l) :
    Calls Try.prog 18 #[.slice A r.length c, .int .i64 n, .slice B l.length d] w fun e w' => ∃ A2 c2, e = .returned (.tuple #[.slice A2 (P.backL r n l).length c2, .int .i64 (P.argE r n r.length l)]) ∧ Sl ic 1 w' A2 c2 (P.backL r n l) ∧ Below w.heap.size w w' := by
  refine (back18_any A B c d r n l w hR hL).mono ?_
  rintro e w' ⟨v, rfl, hO, hb⟩
  obtain ⟨A2, c2, rfl, h⟩ := hO.sl
  exact ⟨A2, c2, rfl, h, hb⟩
theorem back19_sl (A B : Option Addr) (c d : Nat) (r : List (List Int)) (n : Int) (l : List Int) (w : World) (hR : Rel w A c r) (hL : Sl ic 1 w B d l) :
    Calls Try.prog 19 #[.slice A r.length c, .int .i64 n, .slice B l.length d] w fun e w' => ∃ A2 c2, e = .returned (.tuple #[.slice A2 (P.backL r n l).length c2, .int .i64 (P.argE r n r.length l)]) ∧ Sl ic 1 w' A2 c2 (P.backL r n l) ∧ Below w.heap.size w w' := by
  refine (refBack19_any A B c d r n l w hR hL).mono ?_
  rintro e w' ⟨v, rfl, hO, hb⟩
  obtain ⟨A2, c2, rfl, h⟩ := hO.sl
  exact ⟨A2, c2, rfl, h, hb⟩
end Go.Proofs.Ytlobgdnhmhdhbaa

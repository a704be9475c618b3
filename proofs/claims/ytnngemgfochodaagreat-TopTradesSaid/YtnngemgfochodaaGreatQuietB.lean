/-
  A region that draws its order, whose operations read cells that are older than the region and whose callees make new memory and hand back one value: one walk, in the order of the text.
-/
import Derived.Test.YtnngemgfochodaaGreatBase
import Derived.BigQuiet
namespace Go.Mine
open Go.RowKit

/-- a world that keeps the first one's memory -/
structure BW (w0 : World) where
  world : World
  below : Below w0.heap.size w0 world
instance (w0 : World) : Nonempty (BW w0) := ⟨⟨w0, Below.refl _ _⟩⟩
section
variable {P : Program} {w : World}
theorem BW.cell (x : BW w) {b o : Nat} (h : b < w.heap.size) : x.world.cell? ⟨b, o, none⟩ = w.cell? ⟨b, o, none⟩ := x.below.cell (p := ⟨b, o, none⟩) h
theorem BW.get {b o : Nat} {v : Value} (h : b < w.heap.size) (hc : w.cell? ⟨b, o, none⟩ = some v) : ∀ x : BW w, x.world.cell? ⟨b, o, none⟩ = some v := fun x => (x.cell h).trans hc

theorem wp_quiet_below {id : Nat} {Q : Exit → Act → World → Prop} {a : Act} {l : List Oper} (hm : P.follows .mixedOrders = true) (hB : Region.lexB .any l.toArray = true)
    (h : wpQuiet P l.toArray (fun w' => ∃ x : BW w, w' = x.world) (fun a' => ∀ w', (∃ x : BW w, w' = x.world) → Q .normal a' w') l a) : (Code.region id l.toArray true).wp P Q a w :=
  wp_region_quiet (C := fun w' => ∃ x : BW w, w' = x.world) hm hB ⟨⟨_, (Below.refl w.heap.size w).drew⟩, rfl⟩ (by simpa using h)

theorem quiet_below {f : FuncId} {args : Array Value} {x : BW w} {v : Value}
    (h : Calls P f args x.world fun e w' => e = .returned v ∧ Below x.world.heap.size x.world w') : Calls P f args x.world fun e w'' => e = .returned v ∧ ∃ y : BW w, w'' = y.world :=
  h.mono fun _ _ ⟨he, hb⟩ => ⟨he, ⟨⟨_, x.below.trans (hb.mono x.below.size)⟩, rfl⟩⟩
theorem quiet_same {f : FuncId} {args : Array Value} {x : BW w} {v : Value}
    (h : Calls P f args x.world fun e w' => e = .returned v ∧ x.world = w') : Calls P f args x.world fun e w'' => e = .returned v ∧ ∃ y : BW w, w'' = y.world :=
  h.mono fun _ _ ⟨he, hb⟩ => ⟨he, x, hb.symm⟩
end
end Go.Mine

/-
  A range over a function, its list the image of a list; any parameters, any assignment.
-/
import Derived.Test.YtnngemgfochodaaGreatBase2
namespace Go.Mine
open Go.RowKit
theorem wpIn_rangeG {α : Type} {P : Program} {n : Nat} {g : Operand} {ps : Array Tmp} {assign body : Code} {Q : Exit → Act → World → Prop} {a : Act} {w : World}
    {gf : Nat} {lb : Array Value} (hg : a.eval g = .func (.func gf) #[] lb) (eg : ∀ args w, (callFunc gf args).run P w = .ok (.enter gf args) w)
    (enc : α → Array Value) {xs : List α} {R : Nat → Prop} {w0 : World} (hit : Iter P gf lb (xs.map enc) R w0) (hw0 : w0.heap.size ≤ w.heap.size) (hR : ∀ b, R b → b < w0.heap.size ∧ w.heap[b]? = w0.heap[b]?)
    (hps : ∀ x, (enc x).size = ps.size)
    (I : Nat → (Nat → Prop) → World → Prop) (Ix : Code → (Nat → Prop) → World → Prop) (hI : Stable I) (hIx : Stable Ix) (h0 : I 0 (fun _ => False) w)
    (hbody : ∀ (l k : Nat) (y : α) (O : Nat → Prop) (W : World), xs[k]? = some y → I k O W → (∀ b, O b → w.heap.size ≤ b ∧ b < W.heap.size) → w.heap.size ≤ W.heap.size →
      assign.wpIn (Fence.wide.inRound l) (n - 1 - 1) P (Exit.then (fun a1 W1 => Kept (fun b => O b ∨ R b) W W1 ∧ ∀ W2, IStep O O W1 W2 → W2.heap.size = W1.heap.size →
          body.wpIn (Fence.wide.inRound l) (n - 1 - 1) P (rpost I Ix k O R W2) a1 W2) (fun _ _ _ => False))
        { tmps := (ps.zip (enc y)).foldl (fun t (p, v) => t.setIfInBounds p v) a.tmps, defers := [] } W)
    (hdone : ∀ (O : Nat → Prop) (W : World), I xs.length O W → (∀ b, O b → w.heap.size ≤ b ∧ b < W.heap.size) → W.heap[w.heap.size]? = some (.deferred (some [])) → O w.heap.size → w.heap.size ≤ W.heap.size →
      Q .normal { a with defers := { target := .collected w.heap.size, args := #[] } :: a.defers } W)
    (hstop : ∀ (c : Code) (O : Nat → Prop) (W : World), Ix c O W → (∀ b, O b → w.heap.size ≤ b ∧ b < W.heap.size) → W.heap[w.heap.size]? = some (.deferred (some [])) → O w.heap.size → w.heap.size ≤ W.heap.size →
      c.wpIn Fence.wide n P Q { a with defers := { target := .collected w.heap.size, args := #[] } :: a.defers } W) :
    (Code.rangeFunc g ps assign body).wpIn Fence.wide n P Q a w :=
  wpIn_range_gen hg eg hit hw0 hR (fun x hx => by obtain ⟨y, _, rfl⟩ := List.mem_map.1 hx; exact hps y) I Ix hI hIx h0
    (fun l k x O W hx hi hO hz => by
      rw [List.getElem?_map] at hx
      obtain ⟨y, hy, rfl⟩ := Option.map_eq_some_iff.1 hx
      exact hbody l k y O W hy hi hO hz)
    (fun O W hi => hdone O W (by simpa using hi)) hstop
/-- the assignment sets slots alone -/
theorem wpIn_rangeA {α : Type} {P : Program} {n : Nat} {g : Operand} {ps : Array Tmp} {assign body : Code} {Q : Exit → Act → World → Prop} {a : Act} {w : World}
    {gf : Nat} {lb : Array Value} (hg : a.eval g = .func (.func gf) #[] lb) (eg : ∀ args w, (callFunc gf args).run P w = .ok (.enter gf args) w)
    (enc : α → Array Value) {xs : List α} {R : Nat → Prop} {w0 : World} (hit : Iter P gf lb (xs.map enc) R w0) (hw0 : w0.heap.size ≤ w.heap.size) (hR : ∀ b, R b → b < w0.heap.size ∧ w.heap[b]? = w0.heap[b]?)
    (hps : ∀ x, (enc x).size = ps.size)
    (I : Nat → (Nat → Prop) → World → Prop) (Ix : Code → (Nat → Prop) → World → Prop) (hI : Stable I) (hIx : Stable Ix) (h0 : I 0 (fun _ => False) w) (a₁ : α → Act)
    (hassign : ∀ (l : Nat) (y : α) (W : World) (K : Act → World → Prop), K (a₁ y) W →
      assign.wpIn (Fence.wide.inRound l) (n - 1 - 1) P (Exit.then K (fun _ _ _ => False)) { tmps := (ps.zip (enc y)).foldl (fun t (p, v) => t.setIfInBounds p v) a.tmps, defers := [] } W)
    (hbody : ∀ (l k : Nat) (y : α) (O : Nat → Prop) (W : World), xs[k]? = some y → I k O W → (∀ b, O b → w.heap.size ≤ b ∧ b < W.heap.size) → w.heap.size ≤ W.heap.size →
      body.wpIn (Fence.wide.inRound l) (n - 1 - 1) P (rpost I Ix k O R W) (a₁ y) W)
    (hdone : ∀ (O : Nat → Prop) (W : World), I xs.length O W → (∀ b, O b → w.heap.size ≤ b ∧ b < W.heap.size) → W.heap[w.heap.size]? = some (.deferred (some [])) → O w.heap.size → w.heap.size ≤ W.heap.size →
      Q .normal { a with defers := { target := .collected w.heap.size, args := #[] } :: a.defers } W)
    (hstop : ∀ (c : Code) (O : Nat → Prop) (W : World), Ix c O W → (∀ b, O b → w.heap.size ≤ b ∧ b < W.heap.size) → W.heap[w.heap.size]? = some (.deferred (some [])) → O w.heap.size → w.heap.size ≤ W.heap.size →
      c.wpIn Fence.wide n P Q { a with defers := { target := .collected w.heap.size, args := #[] } :: a.defers } W) :
    (Code.rangeFunc g ps assign body).wpIn Fence.wide n P Q a w :=
  wpIn_rangeG hg eg enc hit hw0 hR hps I Ix hI hIx h0
    (fun l k y O W hx hi hO hz => hassign l y W _ ⟨Kept.refl _ _, fun W2 st hz2 => hbody l k y O W2 hx (hI _ _ _ _ _ hi st) (fun b hb => by rw [hz2]; exact hO b hb) (by omega)⟩) hdone hstop
end Go.Mine

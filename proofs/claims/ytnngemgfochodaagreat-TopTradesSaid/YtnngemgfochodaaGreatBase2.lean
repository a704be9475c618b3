/-
  A range over a function with one loop variable whose assignment sets one slot.
-/
import Derived.Test.YtnngemgfochodaaGreatBase
import Derived.Test.YtnngemgfochodaaGreatStillIn
namespace Go.Mine
open Go.RowKit

theorem wpIn_range1 {α : Type} {P : Program} {n : Nat} {g : Operand} {p : Tmp} {assign body : Code} {Q : Exit → Act → World → Prop} {a : Act} {w : World}
    {gf : Nat} {lb : Array Value} (hg : a.eval g = .func (.func gf) #[] lb) (eg : ∀ args w, (callFunc gf args).run P w = .ok (.enter gf args) w)
    (enc : α → Value) {xs : List α} {R : Nat → Prop} {w0 : World} (hit : Iter P gf lb (xs.map fun x => #[enc x]) R w0) (hw0 : w0.heap.size ≤ w.heap.size) (hR : ∀ b, R b → b < w0.heap.size ∧ w.heap[b]? = w0.heap[b]?)
    (s : Tmp) (I : Nat → (Nat → Prop) → World → Prop) (Ix : Code → (Nat → Prop) → World → Prop) (hI : Stable I) (hIx : Stable Ix) (h0 : I 0 (fun _ => False) w)
    (hassign : ∀ (l : Nat) (v : Value) (W : World) (K : Act → World → Prop), K { tmps := (a.tmps.setIfInBounds p v).setIfInBounds s v, defers := [] } W →
      assign.wpIn (Fence.wide.inRound l) (n - 1 - 1) P (Exit.then K (fun _ _ _ => False)) { tmps := a.tmps.setIfInBounds p v, defers := [] } W)
    (hbody : ∀ (l k : Nat) (x : α) (O : Nat → Prop) (W : World), xs[k]? = some x → I k O W → (∀ b, O b → w.heap.size ≤ b ∧ b < W.heap.size) → w.heap.size ≤ W.heap.size →
      body.wpIn (Fence.wide.inRound l) (n - 1 - 1) P (rpost I Ix k O R W) { tmps := (a.tmps.setIfInBounds p (enc x)).setIfInBounds s (enc x), defers := [] } W)
    (hdone : ∀ (O : Nat → Prop) (W : World), I xs.length O W → (∀ b, O b → w.heap.size ≤ b ∧ b < W.heap.size) → W.heap[w.heap.size]? = some (.deferred (some [])) → O w.heap.size → w.heap.size ≤ W.heap.size →
      Q .normal { a with defers := { target := .collected w.heap.size, args := #[] } :: a.defers } W)
    (hstop : ∀ (c : Code) (O : Nat → Prop) (W : World), Ix c O W → (∀ b, O b → w.heap.size ≤ b ∧ b < W.heap.size) → W.heap[w.heap.size]? = some (.deferred (some [])) → O w.heap.size → w.heap.size ≤ W.heap.size →
      c.wpIn Fence.wide n P Q { a with defers := { target := .collected w.heap.size, args := #[] } :: a.defers } W) :
    (Code.rangeFunc g #[p] assign body).wpIn Fence.wide n P Q a w :=
  wpIn_range hg eg hit hw0 hR (fun x hx => by obtain ⟨y, _, rfl⟩ := List.mem_map.1 hx; rfl) I Ix hI hIx h0
    (fun x => { tmps := (a.tmps.setIfInBounds p (x.getD 0 undef)).setIfInBounds s (x.getD 0 undef), defers := [] })
    (fun l x W K hx hK => by obtain ⟨y, _, rfl⟩ := List.mem_map.1 hx; have := hassign l (enc y) W K hK; simpa using this)
    (fun l k x O W hx hi hO hz => by
      rw [List.getElem?_map] at hx
      obtain ⟨y, hy, rfl⟩ := Option.map_eq_some_iff.1 hx
      exact hbody l k y O W hy hi hO hz)
    (fun O W hi => hdone O W (by simpa using hi)) hstop

theorem drop_of_get {α : Type} {l : List α} {k : Nat} {x : α} (h : l[k]? = some x) : l.drop k = x :: l.drop (k + 1) := by
  obtain ⟨hlt, rfl⟩ := List.getElem?_eq_some_iff.1 h
  exact List.drop_eq_getElem_cons hlt
theorem take_of_get {α : Type} {l : List α} {k : Nat} {x : α} (h : l[k]? = some x) : l.take (k + 1) = l.take k ++ [x] := by
  rw [List.take_add_one, h]; rfl
theorem lt_of_get {α : Type} {l : List α} {k : Nat} {x : α} (h : l[k]? = some x) : k < l.length := (List.getElem?_eq_some_iff.1 h).1
theorem O_step {O O' : Nat → Prop} {W W' : World} {B : Nat} (s : IStep O O' W W') (h : ∀ b, O b → B ≤ b) (hB : B ≤ W.heap.size) : ∀ b, O' b → B ≤ b := fun b hb => by
  rcases (s.owns b).1 hb with h1 | h1
  · exact h b h1
  · omega
theorem OwnO.new {α : Type} {f : α → List Value} {sz : Nat} {e : TypeId} {O : Nat → Prop} {w w' : World} {base : Nat} {v v' : Value} {l l' : List α} (h : OwnO f sz e O w base v l) (h' : OwnL f sz e w' base v' l')
    (hv : ∀ g, v'.ownBlock = some g → v.ownBlock = some g ∨ w.heap.size ≤ g) (hO : ∀ b, O b → b < w.heap.size) : OwnO f sz e O w' base v' l' :=
  ⟨h', fun g hg hOg => by rcases hv g hg with h1 | h1; exact h.no g h1 hOg; have := hO g hOg; omega⟩
end Go.Mine

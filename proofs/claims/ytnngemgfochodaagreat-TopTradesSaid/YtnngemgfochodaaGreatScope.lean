/-
  A scope without a jump to a label, in a fence; a loop in whose rounds marks are laid.
-/
import Derived.Test.YtnngemgfochodaaGreatBase2
import Derived.WalkMore
namespace Go.Mine
open Go.RowKit
section
variable {F : Fence} {n : Nat} {P : Program} {b : Frame} {a : Act} {k : List Item} {cs : List Frame} {w : World} {Q : Exit → Act → World → Prop}
theorem stepR_scope {c : Code} : step P (lone (b.atR a (.code (.scope c) :: k)) cs w) = .next (lone (b.atR a (.code c :: .inScope c :: k)) cs w) :=
  step_lone_go (by simp [stepG, stepG.exec, Frame.atR])
theorem stepR_inScope {c : Code} : step P (lone (b.atR a (.inScope c :: k)) cs w) = .next (lone (b.atR a k) cs w) :=
  step_lone_go (by simp [stepG, stepG.exec, Frame.atR])

theorem wpIn_scope {c : Code} (h : c.wpIn F n P (Exit.noGoto Q) a w) : (Code.scope c).wpIn F n P Q a w := by
  intro b k cs hro hb hr
  have h0 : (lone (b.atR a (.code (.scope c) :: k)) cs w).fenced P F := fenced_calm hb hr rfl
  obtain ⟨e, a₁, w₁, hq, harr⟩ := h b (.inScope c :: k) cs hro hb hr
  cases e with
  | normal => exact ⟨.normal, a₁, w₁, hq, .head h0 stepR_scope (StepsIn.trans harr (.one (fenced_calm hb hr rfl) stepR_inScope))⟩
  | exit id' =>
    have hx : exitTo id' (.inScope c :: k) = exitTo id' k := by simp [exitTo]
    exact ⟨.exit id', a₁, w₁, hq, fun k' hk => .head h0 stepR_scope (harr.1 k' (by rw [hx]; exact hk)),
      fun hr' hk => let ⟨k₁, h1, h2⟩ := harr.2 hr' (by rw [hx]; exact hk); ⟨k₁, h1, .head h0 stepR_scope h2⟩⟩
  | goto l => exact hq.elim
  | ret => exact ⟨_, a₁, w₁, hq, .of_steps (.one h0 stepR_scope) harr⟩
  | panic ch => exact ⟨_, a₁, w₁, hq, .of_steps (.one h0 stepR_scope) harr⟩
  | outgrown => exact ⟨_, a₁, w₁, hq, .of_steps (.one h0 stepR_scope) harr⟩
end
/-- marks among the deferred calls, each its own open block, none among the boxes -/
structure Marks (B : Nat) (w : World) (ds : List Nat) : Prop where
  open_ : ∀ r ∈ ds, w.heap[r]? = some (.deferred (some []))
  nodup : ds.Nodup
  low : ∀ r ∈ ds, B ≤ r
theorem Marks.nil (B : Nat) (w : World) : Marks B w [] := ⟨by simp, by simp, by simp⟩
theorem Marks.lt {B : Nat} {w : World} {ds : List Nat} (h : Marks B w ds) {r : Nat} (hr : r ∈ ds) : r < w.heap.size := (Array.getElem?_eq_some_iff.1 (h.open_ r hr)).1
theorem Marks.keep {B : Nat} {w w' : World} {ds : List Nat} (h : Marks B w ds) (hk : ∀ r ∈ ds, w'.heap[r]? = w.heap[r]?) : Marks B w' ds := ⟨fun r hr => (hk r hr).trans (h.open_ r hr), h.nodup, h.low⟩
theorem Marks.bel {B : Nat} {w w' : World} {ds : List Nat} (h : Marks B w ds) (hb : Below w.heap.size w w') : Marks B w' ds := h.keep fun r hr => hb.block r (h.lt hr)
theorem Marks.cons {B : Nat} {w : World} {ds : List Nat} (h : Marks B w ds) {D : Nat} (hD : w.heap[D]? = some (.deferred (some []))) (hB : B ≤ D) (hn : D ∉ ds) : Marks B w (D :: ds) :=
  ⟨fun r hr => by rcases List.mem_cons.1 hr with rfl | hr; exact hD; exact h.open_ r hr, List.nodup_cons.2 ⟨hn, h.nodup⟩, fun r hr => by rcases List.mem_cons.1 hr with rfl | hr; exact hB; exact h.low r hr⟩
theorem Marks.set {B : Nat} {w : World} {ds : List Nat} (h : Marks B w ds) {a : Addr} {v u : Value} (hc : w.cell? a = some v) : Marks B (w.setCell a u) ds :=
  h.keep fun r hr => Below.heap_setCell _ _ _ _ (by
    rintro rfl
    have := h.open_ _ hr
    simp [World.cell?, this] at hc)
theorem marksOf_cons (D : Nat) (ds : List Nat) : marksOf (D :: ds) = { target := .collected D, args := #[] } :: marksOf ds := rfl
/-- behind the marks: what holds of the blocks that are no marks holds still -/
theorem leaves_all {F : Fence} {n : Nat} {P : Program} {fn : Func} {tmps : Array Value} {R : Ending → World → Prop} {B : Nat} {w : World} {ds : List Nat} (h : Marks B w ds)
    (hR : ∀ w', IStep (· ∈ ds) (· ∈ ds) w w' → w'.heap.size = w.heap.size → ∃ v, (results fn tmps).run P w' = .ok v w' ∧ R (.returned v) w') :
    LeavesInM F n P fn tmps R (marksOf ds) .returning w :=
  leaves_marks (by simp) ds w h.open_ h.nodup fun w' st hz => by
    obtain ⟨v, h1, h2⟩ := hR w' st hz
    exact ⟨v, h1, h2⟩
theorem IStep.cast {ds : List Nat} {O : Nat → Prop} {w w' : World} (st : IStep (· ∈ ds) (· ∈ ds) w w') (hz : w'.heap.size = w.heap.size) (hO : ∀ r ∈ ds, O r) : IStep O O w w' :=
  ⟨st.os, st.tape, st.output, st.size, fun b hb hn => st.keep b hb (fun h => hn (hO b h)), fun b => by rw [hz]; constructor; exact .inl; rintro (h | h); exact h; omega⟩
end Go.Mine

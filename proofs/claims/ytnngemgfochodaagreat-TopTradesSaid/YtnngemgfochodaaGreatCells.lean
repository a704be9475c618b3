/-
  Boxes of one cell that are stored to, one after another.
-/
import Derived.Test.YtnngemgfochodaaGreatRange2
import Derived.Test.YtnngemgfochodaaGreatBlk
namespace Go.Mine
open Go.RowKit
/-- a block of one cell, wherever it lies -/
def One (w : World) (b : Nat) (v : Value) : Prop := ∃ t, w.heap[b]? = some (.cells #[v] t (0, 0))
section
variable {w : World} {b a : Nat} {v u : Value}
theorem Blk.one {t : TypeId} (h : Blk w b t #[v]) : One w b v := ⟨t, h.at_⟩
theorem Bx.one {O : Nat → Prop} {t : TypeId} (h : Bx O w b t v) : One w b v := ⟨t, h.at_⟩
theorem One.cell (h : One w b v) : w.cell? ⟨b, 0, none⟩ = some v := by obtain ⟨t, h⟩ := h; simp [World.cell?, h]
theorem One.thaw (h : One w b v) : w.frozen? ⟨b, 0, none⟩ = false := by obtain ⟨t, h⟩ := h; simp [World.frozen?, h]
theorem One.lt (h : One w b v) : b < w.heap.size := by obtain ⟨t, h⟩ := h; exact (Array.getElem?_eq_some_iff.1 h).1
theorem One.set (h : One w b v) (u : Value) : One (w.setCell ⟨b, 0, none⟩ u) b u := by obtain ⟨t, h⟩ := h; exact ⟨t, by simp [World.setCell, Array.getElem?_modify, h]⟩
theorem One.far (h : One w b v) (u : Value) (hn : b ≠ a) : One (w.setCell ⟨a, 0, none⟩ u) b v := by obtain ⟨t, h⟩ := h; exact ⟨t, (Below.heap_setCell _ _ _ _ hn).trans h⟩
theorem One.put (h : One w b v) {D : Nat} (o : Obj) (hD : b ≠ D) : One (w.putObj D o) b v := by obtain ⟨t, h⟩ := h; exact ⟨t, (World.putObj_heap_other hD).trans h⟩
theorem One.bel {w' : World} (h : One w b v) (k : Below w.heap.size w w') : One w' b v := by have hl := h.lt; obtain ⟨t, h⟩ := h; exact ⟨t, (k.block b hl).trans h⟩
theorem One.heap {w' : World} (h : One w b v) (e : w'.heap[b]? = w.heap[b]?) : One w' b v := by obtain ⟨t, h⟩ := h; exact ⟨t, e.trans h⟩
theorem One.drew (h : One w b v) : One w.drew b v := h
theorem One.alloc (h : One w b v) (o : Obj) : One (w.alloc o) b v := by have hl := h.lt; obtain ⟨t, h⟩ := h; exact ⟨t, heap_alloc_at h o⟩
theorem One.bx {O : Nat → Prop} {t : TypeId} (h : One w b v) (ht : ∀ c, w.heap[b]? = some c → ∃ x f, c = .cells x t f) (hO : ¬ O b) : Bx O w b t v := by
  obtain ⟨t', h⟩ := h
  obtain ⟨x, f, e⟩ := ht _ h
  cases e
  exact ⟨hO, h⟩
theorem One.step {O O' : Nat → Prop} {w' : World} (h : One w b v) (st : IStep O O' w w') (hO : ¬ O b) : One w' b v := h.heap (st.keep b h.lt hO)
theorem deferred_set {D : Nat} {x : Obj} (h : w.heap[D]? = some x) (u : Value) (hn : D ≠ a) : (w.setCell ⟨a, 0, none⟩ u).heap[D]? = some x := set_other h hn
end
end Go.Mine

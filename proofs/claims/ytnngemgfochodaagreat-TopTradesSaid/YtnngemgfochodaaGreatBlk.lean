/-
  A block of cells of a world, followed through calls that keep what lay before them.
-/
import Derived.Test.YtnngemgfochodaaGreatQuietB
namespace Go.Mine
open Go.RowKit
structure Blk (w : World) (b : Nat) (ty : TypeId) (cs : Array Value) : Prop where
  lt : b < w.heap.size
  at_ : w.heap[b]? = some (.cells cs ty (0, 0))
section
variable {w w' : World} {b : Nat} {ty : TypeId} {cs : Array Value}
theorem Blk.bel (h : Blk w b ty cs) (k : Below w.heap.size w w') : Blk w' b ty cs := ⟨Nat.lt_of_lt_of_le h.lt k.size, (k.block _ h.lt).trans h.at_⟩
theorem Blk.alloc (h : Blk w b ty cs) (o : Obj) : Blk (w.alloc o) b ty cs := ⟨by have := h.lt; simp; omega, heap_alloc_at h.at_ o⟩
theorem Blk.new (w : World) (cs : Array Value) (ty : TypeId) : Blk (w.alloc (.cells cs ty)) w.heap.size ty cs := ⟨by simp, heap_new _ _⟩
theorem Blk.new1 (w : World) (o : Obj) (cs : Array Value) (ty : TypeId) : Blk ((w.alloc o).alloc (.cells cs ty)) (w.heap.size + 1) ty cs := ⟨by simp, new_row1 _ _ _⟩
theorem Blk.new2 (w : World) (o o' : Obj) (cs : Array Value) (ty : TypeId) : Blk (((w.alloc o).alloc o').alloc (.cells cs ty)) (w.heap.size + 2) ty cs := ⟨by simp, by have := heap_new ((w.alloc o).alloc o') (.cells cs ty); simpa using this⟩
theorem Blk.new3 (w : World) (o o' o'' : Obj) (cs : Array Value) (ty : TypeId) : Blk ((((w.alloc o).alloc o').alloc o'').alloc (.cells cs ty)) (w.heap.size + 3) ty cs := ⟨by simp, by have := heap_new (((w.alloc o).alloc o').alloc o'') (.cells cs ty); simpa using this⟩
theorem Blk.drew (h : Blk w b ty cs) : Blk w.drew b ty cs := ⟨h.lt, h.at_⟩
theorem Blk.cell (h : Blk w b ty cs) (i : Nat) {v : Value} (hv : cs[i]? = some v) : w.cell? ⟨b, i, none⟩ = some v := by simp [World.cell?, h.at_, hv]
theorem Blk.thaw (h : Blk w b ty cs) (i : Nat) : w.frozen? ⟨b, i, none⟩ = false := by simp [World.frozen?, h.at_]
theorem Blk.far (h : Blk w b ty cs) (p : Addr) (u : Value) (hp : b ≠ p.block) : Blk (w.setCell p u) b ty cs := ⟨by have := h.lt; simpa [World.setCell] using this, (Below.heap_setCell _ _ _ _ hp).trans h.at_⟩
theorem Blk.set (h : Blk w b ty cs) (i : Nat) (u : Value) {cs' : Array Value} (hc : cs.setIfInBounds i u = cs') : Blk (w.setCell ⟨b, i, none⟩ u) b ty cs' := ⟨by have := h.lt; simpa [World.setCell] using this, by rw [heap_set_at h.at_]; rw [hc]⟩
/-- in a quiet region -/
theorem Blk.bw (h : Blk w b ty cs) (i : Nat) {v : Value} (hv : cs[i]? = some v) : ∀ x : BW w, x.world.cell? ⟨b, i, none⟩ = some v := BW.get h.lt (h.cell i hv)
/-- what has been kept so far -/
theorem kalloc {w0 : World} (h : Below w0.heap.size w0 w) (o : Obj) : Below w0.heap.size w0 (w.alloc o) := h.alloc h.size o
theorem kcall {w0 : World} (h : Below w0.heap.size w0 w) (k : Below w.heap.size w w') : Below w0.heap.size w0 w' := h.trans (k.mono h.size)
/-- Go on at any world of which this is known. -/
theorem at_world {P : Program} {c : Code} {Q : Exit → Act → World → Prop} {a : Act} {w0 : World} (S : World → Prop) (h0 : S w0) (h : ∀ w3, S w3 → Code.wp P c Q a w3) : Code.wp P c Q a w0 := h w0 h0
end
end Go.Mine

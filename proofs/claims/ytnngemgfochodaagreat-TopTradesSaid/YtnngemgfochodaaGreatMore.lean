/-
  make with a size that is a variable.
-/
import Derived.Test.YtnngemgfochodaaGreatScope
namespace Go.Mine
open Go.RowKit
theorem run_make_rowN {P : Program} (t e : TypeId) (i : TypeInfo) (z : Value) (ht : P.underlying t = some (.slice e)) (hi : P.info? e = some i) (hz : i.zero = some z)
    (kl kc : IntKind) (n c : Nat) (hnc : n ≤ c) (hbytes : i.bytes * c ≤ 281474976710656) (h63 : c ≤ 9223372036854775807) (w : World) :
    (Instr.makeSlice t (.int kl (n : Int)) (.int kc (c : Int))).run P w = .ok (.slice (some ⟨w.heap.size, 0, none⟩) n c) (w.alloc (.cells (madeCells z.cells (c * i.size)) e)) := by
  have hb : (i.bytes : Int) * (c : Int) ≤ 281474976710656 := by
    have h : ((i.bytes * c : Nat) : Int) ≤ 281474976710656 := by omega
    rwa [Int.natCast_mul] at h
  have hr := run_make (P := P) w t e i z ht hi hz kl kc n c (by omega) (by omega) hb (by omega)
  simp only [Int.toNat_natCast] at hr
  exact hr
structure MarksO (B : Nat) (O : Nat → Prop) (w : World) (ds : List Nat) : Prop where
  m : Marks B w ds
  no : ∀ r ∈ ds, ¬ O r
theorem MarksO.step {B : Nat} {O O' : Nat → Prop} {w w' : World} {ds : List Nat} (h : MarksO B O w ds) (s : IStep O O' w w') : MarksO B O' w' ds :=
  ⟨h.m.keep fun r hr => s.keep r (h.m.lt hr) (h.no r hr), fun r hr hO => by
    rcases (s.owns r).1 hO with h1 | h1
    · exact h.no r hr h1
    · have := h.m.lt hr; omega⟩
end Go.Mine

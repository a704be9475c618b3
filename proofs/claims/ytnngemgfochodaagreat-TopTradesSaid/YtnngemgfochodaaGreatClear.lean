/-
  The end of a row is cleared.
-/
import Derived.Test.YtnngemgfochodaaGreatBase
import Derived.Lib.SliceRun
import Derived.Lib.SlKept
import Derived.Shelf.Abstract
namespace Go.Mine
open Go.RowKit Go.Shelf Go.Sort Go.Lib Go.Proofs
variable {P : Program} {k : Nat} {w W : World} {blk : Nat}
theorem gb_setCells (h : w.grownBy W (some blk)) : ∀ (vs : List Value) (o : Nat), w.grownBy (W.setCells blk o vs) (some blk) := by
  intro vs
  induction vs generalizing W with
  | nil => intro o; exact h
  | cons v vs ih => intro o; exact ih (W := W.setCell ⟨blk, o, none⟩ v) (gb_set h (.inl rfl) v) (o + 1)
theorem run_clear_k (P : Program) (W : World) (t e ty : TypeId) (z : Value) (ht : P.underlying t = some (.slice e)) (hv : ∀ w, (zeroValue e).run P w = .ok z w) (hzk : z.cells.size = k) (hz1 : ∀ v ∈ z.cells.toList, v.oneCell' = true) (b o n c : Nat) (hn : 0 < n)
    (hc : ∀ j, j < n * k → (W.cell? ⟨b, o + j, none⟩).isSome = true) (hf : ∀ j, j < n * k → W.frozen? ⟨b, o + j, none⟩ = false) :
    (Builtin.clear_ #[t] ty #[.slice (some ⟨b, o, none⟩) n c]).run P W = .ok (.tuple #[]) (W.setCells b o (Builtin.zeroCells z.cells n).toList) := by
  have hl : (Builtin.zeroCells z.cells n).toList.length = n * k := by simp [Builtin.zeroCells, hzk]
  have hst := run_storeCells_cells (P := P) b o (Builtin.zeroCells z.cells n).toList 0 W (fun j hj => by rw [Nat.add_zero]; exact hc j (by omega)) (fun j hj => by rw [Nat.add_zero]; exact hf j (by omega)) (by
    intro v hv'
    obtain ⟨i, hi, rfl⟩ := List.getElem_of_mem hv'
    rw [hl] at hi
    have k0 : 0 < k := by rcases Nat.eq_zero_or_pos k with h | h; · subst h; simp at hi
                          · exact h
    have hm : i % z.cells.size < z.cells.size := Nat.mod_lt _ (by omega)
    simp only [Builtin.zeroCells, Array.toList_map, List.getElem_map, Array.toList_range, List.getElem_range]
    rw [getElem!_pos z.cells _ hm]
    exact hz1 _ (by simp))
  simp only [Nat.add_zero] at hst
  obtain ⟨m, rfl⟩ : ∃ m, n = m + 1 := ⟨n - 1, by omega⟩
  simp [Builtin.clear_, run_underlying ht, hv, hst]
end Go.Mine

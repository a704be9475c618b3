/-
  An element of an own row: its cells, and one of them turned.
-/
import Derived.Test.YtnngemgfochodaaGreatPush
namespace Go.Mine
open Go.RowKit
theorem flat_set {α : Type} {f : α → List Value} {sz : Nat} : ∀ {l : List α} {k j : Nat} {y y' : α} {u : Value}, (∀ x ∈ l, (f x).length = sz) → l[k]? = some y → j < sz → f y' = (f y).set j u → (l.set k y').flatMap f = (l.flatMap f).set (k * sz + j) u
  | [], k, j, y, y', u, _, hk, _, _ => by simp at hk
  | z :: l, 0, j, y, y', u, hs, hk, hj, hf => by
    simp at hk; subst hk
    have hz := hs z (by simp)
    simp only [List.set_cons_zero, List.flatMap_cons]
    rw [Nat.zero_mul, Nat.zero_add, List.set_append_left _ _ (by omega), hf]
  | z :: l, k + 1, j, y, y', u, hs, hk, hj, hf => by
    have hz := hs z (by simp)
    simp only [List.set_cons_succ, List.flatMap_cons]
    rw [flat_set (fun x hx => hs x (by simp [hx])) (by simpa using hk) hj hf, List.set_append_right _ _ (by rw [hz, Nat.succ_mul]; omega), hz]
    congr 2
    rw [Nat.succ_mul]; omega
/-- an element of an own row: its cells; what stands when one of them is turned -/
theorem own_at {α : Type} {f : α → List Value} {sz : Nat} {e : TypeId} {w : World} {base : Nat} {v : Value} {l : List α} (h : OwnL f sz e w base v l) {k : Nat} {y : α} (hk : l[k]? = some y) :
    ∃ g cap, v = .slice (some ⟨g, 0, none⟩) l.length cap ∧ base ≤ g ∧ g < w.heap.size ∧ l.length ≤ cap ∧ cap ≤ 9223372036854775807 ∧ (∀ j, w.frozen? ⟨g, j, none⟩ = false) ∧ (∀ j u, (f y)[j]? = some u → w.cell? ⟨g, k * sz + j, none⟩ = some u) ∧
      ∀ (j : Nat) (u : Value) (y' : α) (w' : World), w'.heap[g]? = (w.setCell ⟨g, k * sz + j, none⟩ u).heap[g]? → j < sz → f y' = (f y).set j u → OwnL f sz e w' base v (l.set k y') := by
  have hkl : k < l.length := (List.getElem?_eq_some_iff.1 hk).1
  obtain ⟨⟨hl, h1⟩, hs⟩ := h
  rcases h1 with ⟨rfl, hn⟩ | ⟨g, cap, cur, rfl, hg, hh, hn, hc, hz, ht⟩
  · omega
  · have hsy := hs y (List.mem_of_getElem? hk)
    refine ⟨g, cap, rfl, hg, (Array.getElem?_eq_some_iff.1 hh).1, hn, by simpa [maxLen] using hc, fun j => by simp [World.frozen?, hh], fun j u hu => ?_, fun j u y' w' hw' hj hf => ?_⟩
    · have hju : j < sz := by rw [← hsy]; exact (List.getElem?_eq_some_iff.1 hu).1
      have hfg := flat_get f sz l k j y u hs hk hu
      have hlt : k * sz + j < l.length * sz := by have := Nat.mul_le_mul_right sz (show k + 1 ≤ l.length from hkl); rw [Nat.succ_mul] at this; omega
      rw [← ht, List.getElem?_take_of_lt hlt] at hfg
      simp only [World.cell?, hh]
      simpa using hfg
    · rw [heap_set_at hh] at hw'
      have hfl : ((l.set k y').flatMap f).length = l.length * sz := by rw [flat_set hs hk hj hf]; simpa using hl
      refine ⟨⟨by rw [hfl]; simp, .inr ⟨g, cap, _, by simp, hg, hw', by simpa using hn, hc, by simpa using hz, ?_⟩⟩, ?_⟩
      · rw [flat_set hs hk hj hf, ← ht, Array.toList_setIfInBounds, List.length_set, List.take_set]
      · intro x hx
        rcases List.mem_or_eq_of_mem_set hx with hx | rfl
        · exact hs x hx
        · rw [hf]; simp [hsy]
end Go.Mine

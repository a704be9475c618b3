/-
  A slice of elements of several cells, whatever the elements, as a list.
-/
import Derived.Test.YtnngemgfochodaaGreatLift3
import Derived.Laws.IdiomArrays
namespace Go.Mine
open Go.RowKit Go.WideShapes Go.ChangeShapes Go.Deep
section
variable {H : Type} {enc : TypeId × Value → H} {P : Program} {w : World} {base : Nat} {held : Bool}
theorem open_slG {α : Type} {f : α → List Value} {sz : Nat} {Q : α → Prop} {b0 : Nat} {r : Reach} {t e : TypeId} {v : Value} {d : DataW H} {ps : List MemPlace} (ht : P.underlying t = some (.slice e)) (hC : P.cellsOf e = sz) (hpos : 0 < sz) (hsz : ∀ y, (f y).length = sz)
    (hel0 : ∀ cs n x, cs.length = sz → DataW.trod enc P w base (fun _ => true) held n e cs = some x → ∃ y, cs = f y ∧ Q y)
    (hv : Value.okWide P w r b0 t v) (h : DataW.Trod enc P w base (fun _ => true) held t v d ps) :
    ∃ (A : Option Addr) (c : Nat) (l : List α), v = .slice A l.length c ∧ Sl f sz w A c l ∧ (∀ x ∈ l, Q x) := by
  obtain ⟨a0, len0, cap0, rfl⟩ := okWide_slice ht hv
  obtain ⟨fuel, hf⟩ := h
  rcases open_slice ht hf with ⟨hcs, _⟩ | ⟨a, len, cap, m, n, D, Pl, hcs, hb, hl, hm, hmm, hx, hi⟩
  · simp only [Value.cells, List.cons.injEq, and_true, Value.slice.injEq] at hcs
    obtain ⟨rfl, rfl, rfl⟩ := hcs
    exact ⟨none, 0, [], rfl, Sl.nil (by omega), by simp⟩
  · simp only [Value.cells, List.cons.injEq, and_true, Value.slice.injEq] at hcs
    obtain ⟨rfl, rfl, rfl⟩ := hcs
    have hmc : m = cap0 := by simpa using hmm
    have hel : ∀ i, i < len0 → ∃ x : α, Q x ∧ w.cells? base (a.add (i * sz)) sz = some (f x) := by
      intro i hil
      obtain ⟨cs', hc, ht'⟩ := hi i (by omega)
      rw [hC] at hc
      obtain ⟨_, hcl, hat⟩ := World.cells?_some hc
      obtain ⟨y, rfl, hy⟩ := hel0 cs' _ _ hcl ht'
      exact ⟨y, hy, hc⟩
    have key : ∀ k, k ≤ len0 → ∃ l : List α, l.length = k ∧ (∀ x ∈ l, Q x) ∧ ∀ i x, l[i]? = some x → w.cells? base (a.add (i * sz)) sz = some (f x) := by
      intro k
      induction k with
      | zero => exact fun _ => ⟨[], rfl, by simp, by simp⟩
      | succ k ih =>
        intro hk
        obtain ⟨l, h1, h2, h3⟩ := ih (by omega)
        obtain ⟨x, x1, x3⟩ := hel k (by omega)
        refine ⟨l ++ [x], by simp [h1], ?_, ?_⟩
        · intro y hy
          rcases List.mem_append.1 hy with hy | hy
          · exact h2 y hy
          · simp at hy; subst hy; exact x1
        · intro i y hy
          by_cases hi : i < l.length
          · rw [List.getElem?_append_left hi] at hy; exact h3 i y hy
          · rw [List.getElem?_append_right (by omega)] at hy
            have : i = l.length := by
              rcases Nat.lt_or_ge (i - l.length) 1 with h | h
              · omega
              · rw [List.getElem?_eq_none (by simpa using h)] at hy; cases hy
            subst this
            simp at hy; subst hy
            rw [h1]; exact x3
    obtain ⟨l, l1, l2, l3⟩ := key len0 (Nat.le_refl _)
    subst l1
    refine ⟨some a, cap0, l, rfl, ⟨hl, by simpa [maxLen] using hm, fun x _ => hsz x, fun hne => ?_⟩, l2⟩
    have hget : ∀ k x, l[k]? = some x → ∀ j, j < sz → w.cell? ((a.add (k * sz)).add j) = (f x)[j]? := fun k x hx j hj => (World.cells?_some (l3 k x hx)).2.2 j hj
    have h0 : l[0]? = some (l[0]'(List.length_pos_iff.2 hne)) := List.getElem?_eq_getElem _
    have hc0 := hget 0 _ h0 0 hpos
    have hv0 : (f (l[0]'(List.length_pos_iff.2 hne)))[0]? = some ((f (l[0]'(List.length_pos_iff.2 hne)))[0]'(by rw [hsz]; exact hpos)) := List.getElem?_eq_getElem _
    rw [hv0] at hc0
    have e0 : (a.add (0 * sz)).add 0 = a := by simp [Addr.add]
    rw [e0] at hc0
    have hspot := World.cell?_spot hc0
    obtain ⟨b, off, sp⟩ := a
    dsimp only at hspot
    subst hspot
    have hbl : b < w.heap.size := by
      rcases Nat.lt_or_ge b w.heap.size with h | h
      · exact h
      · simp [World.cell?, Array.getElem?_eq_none h] at hc0
    refine ⟨b, off, rfl, hbl, fun i v hv => ?_⟩
    obtain ⟨x, hx, hvx⟩ := flat_get' _ sz hpos l i v (fun x _ => hsz x) hv
    have hj : i % sz < sz := Nat.mod_lt _ hpos
    have := hget _ x hx _ hj
    rw [Go.WideShapes.add_plain, Go.WideShapes.add_plain, hvx] at this
    rw [← this]
    congr 2
    have := Nat.div_add_mod i sz
    rw [Nat.mul_comm] at this
    omega
end
end Go.Mine

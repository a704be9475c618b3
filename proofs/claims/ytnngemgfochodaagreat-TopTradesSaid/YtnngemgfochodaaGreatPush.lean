/-
  One element appended to a row of the call's own, at the operation; the last element of such a row; an empty row.
-/
import Derived.Test.YtnngemgfochodaaGreatBlk
import Derived.Maps.AppendAt
namespace Go.Mine
open Go.RowKit
section
variable {α : Type} {f : α → List Value} {sz : Nat} {e : TypeId} {P : Program} {w : World} {Q : Exit → Act → World → Prop}
theorem wpList_push {ops : Array Oper} {rest : List Oper} {o : Oper} {a : Act} (hgd : o.guard = none) (s x : Operand) (t : TypeId)
    (ho : o.op = .call { callee := .builtin .append, args := #[s, x], argTypes := #[t, t] })
    {base : Nat} {i : TypeInfo} {z : Value} {bytes : Nat} (ht : P.underlying t = some (.slice e)) (hi : P.info? e = some i) (hz : i.zero = some z)
    (hsize : i.size = sz) (hby : i.bytes = bytes) (hzs : z.cells.size = sz) (hsz : 0 < sz)
    {v : Value} {l : List α} (hs : a.eval s = v) (hown : OwnL f sz e w base v l)
    {b : Nat} {c : Nat} {y : α} {cs : Array Value} {e' : TypeId} (hx : a.eval x = .slice (some ⟨b, 0, none⟩) 1 c) (hb : w.heap[b]? = some (.cells cs e' (0, 0))) (hcs : cs.toList = f y) (hlen : (f y).length = sz)
    (h1 : ∀ u ∈ f y, u.oneCell' = true) (h63 : l.length + 1 ≤ maxLen) (hbytes : (l.length + 1) * bytes ≤ 140737488355328) (hbase : base ≤ w.heap.size)
    (h : ∀ v' w', OwnL f sz e w' base v' (l ++ [y]) → w.grownBy w' v.ownBlock → (∀ g, v'.ownBlock = some g → v.ownBlock = some g ∨ w.heap.size ≤ g) → wpList P ops Q rest (a.put o.dst v') w') :
    wpList P ops Q (o :: rest) a w := by
  refine wpList_append_own_at _ hgd s x t ho base e i z sz bytes ht hi hz hsize hby hzs hsz v l.length _ hs hown.1 ⟨b, 0, none⟩ 1 c (f y) hx (by rw [hlen, Nat.one_mul]) (row_cells hb _ hcs) h1 h63 hbytes hbase ?_
  intro v' w' hown' hgrow _ hat
  refine h v' w' (hown.append hlen hown') hgrow (fun g hg => ?_)
  rcases hat with hat | hat <;> rw [hat] at hg
  · exact .inl hg
  · exact .inr (by simp at hg; omega)

theorem OwnL.fresh (w : World) {base : Nat} (hb : base ≤ w.heap.size) : OwnL f sz e (w.alloc (.cells #[] e)) base (.slice (some ⟨w.heap.size, 0, none⟩) 0 0) ([] : List α) :=
  ⟨⟨by simp, .inr ⟨w.heap.size, 0, #[], by simp, hb, heap_new _ _, by simp, by simp [maxLen], by simp, by simp⟩⟩, by simp⟩

/-- the last element: its cells; what stands when one of them is turned -/
theorem OwnL.last {base : Nat} {v : Value} {l : List α} {y : α} (h : OwnL f sz e w base v (l ++ [y])) :
    ∃ g cap, v = .slice (some ⟨g, 0, none⟩) (l.length + 1) cap ∧ base ≤ g ∧ g < w.heap.size ∧ cap ≤ 9223372036854775807 ∧ w.frozen? ⟨g, 0, none⟩ = false ∧ (∀ k, w.frozen? ⟨g, k, none⟩ = false) ∧
      (∀ j u, (f y)[j]? = some u → w.cell? ⟨g, l.length * sz + j, none⟩ = some u) ∧
      ∀ (j : Nat) (u : Value) (y' : α) (w' : World), w'.heap[g]? = (w.setCell ⟨g, l.length * sz + j, none⟩ u).heap[g]? → j < sz → f y' = (f y).set j u → OwnL f sz e w' base v (l ++ [y']) := by
  obtain ⟨⟨hl, h1⟩, hs⟩ := h
  rcases h1 with ⟨rfl, hn⟩ | ⟨g, cap, cur, rfl, hg, hh, hn, hc, hz, ht⟩
  · simp at hn
  · have hgw : g < w.heap.size := (Array.getElem?_eq_some_iff.1 hh).1
    have hfl : (l.flatMap f).length = l.length * sz := flat_length f sz l (fun x hx => hs x (by simp [hx]))
    have hfy : (f y).length = sz := hs y (by simp)
    have hlen : (l ++ [y]).length = l.length + 1 := by simp
    rw [hlen] at hn ht
    have hcz : cur.toList.take ((l.length + 1) * sz) = l.flatMap f ++ f y := by rw [ht]; simp
    refine ⟨g, cap, by rw [hlen], hg, hgw, by simpa [maxLen] using hc, by simp [World.frozen?, hh], fun k => by simp [World.frozen?, hh], fun j u hu => ?_, fun j u y' w' hw' hj hf => ?_⟩
    · have hju : j < sz := by rw [← hfy]; exact (List.getElem?_eq_some_iff.1 hu).1
      simp only [World.cell?, hh]
      rw [← Array.getElem?_toList, ← List.getElem?_take_of_lt (show l.length * sz + j < (l.length + 1) * sz by rw [Nat.succ_mul]; omega), hcz, List.getElem?_append_right (by omega), hfl]
      rw [Nat.add_sub_cancel_left]; exact hu
    · rw [heap_set_at hh] at hw'
      have hfl' : (f y').length = sz := by rw [hf]; simp [hfy]
      refine ⟨⟨by simp [hfl, hfl', Nat.succ_mul], .inr ⟨g, cap, _, by simp, hg, hw', by simp; omega, hc, by simp [hz], ?_⟩⟩, ?_⟩
      · have hl2 : (l ++ [y']).length * sz = (l.length + 1) * sz := by simp
        rw [hl2, Array.toList_setIfInBounds, List.take_set, hcz, List.set_append_right _ _ (by rw [hfl]; omega), hfl, Nat.add_sub_cancel_left, ← hf]
        simp
      · intro x hx
        rcases List.mem_append.1 hx with hx | hx
        · exact hs x (by simp [hx])
        · simp at hx; subst hx; exact hfl'
end
end Go.Mine

/-
  Slices of structs of ints as one cell of a struct.
-/
import Derived.Test.YtklndmnhhakmiaaLift3
namespace Go.Mine
open Go.RowKit Go.WideShapes Go.ChangeShapes Go.Deep
section
variable {H : Type} {enc : TypeId × Value → H} {P : Program} {w : World} {base : Nat} {held : Bool}
/-- A slice of structs of n int fields, where it is one cell of something. -/
theorem open_slT {t e : TypeId} {fs : Array Field} {fuel : Nat} {cs0 : List Value} {xx : DataW H × List MemPlace} (ht : P.underlying t = some (.slice e)) (he : P.underlying e = some (.struct fs))
    (hone : oneCellFields P fs = true) (hC : P.cellsOf e = fs.size) (hpos : 0 < fs.size) (hint0 : fs.map (fun f => P.underlying f.type) = Array.replicate fs.size (some (.int .i64)))
    (hf : DataW.trod enc P w base (fun _ => true) held fuel t cs0 = some xx) :
    ∃ (A : Option Addr) (c : Nat) (l : List (List Int)), cs0 = [.slice A l.length c] ∧ Sl (fun x => x.map (Value.int .i64)) fs.size w A c l ∧ (∀ x ∈ l, x.length = fs.size ∧ ∀ n ∈ x, i64ok n) := by
  have hint : ∀ (j : Nat) (f : Field), fs[j]? = some f → P.underlying f.type = some (.int .i64) := by
    intro j f hj
    have h1 : (fs.map (fun f => P.underlying f.type))[j]? = some (P.underlying f.type) := by rw [Array.getElem?_map, hj]; rfl
    rw [hint0] at h1
    have hlt := (Array.getElem?_eq_some_iff.1 hj).1
    rw [Array.getElem?_replicate, if_pos hlt] at h1
    exact (Option.some.inj h1).symm
  rcases open_slice ht hf with ⟨hcs, _⟩ | ⟨a, len, cap, m, n, D, Pl, hcs, hb, hl, hm, hmm, hx, hi⟩
  · subst hcs
    exact ⟨none, 0, [], rfl, Sl.nil (by omega), by simp⟩
  · subst hcs
    obtain ⟨len0, rfl⟩ : ∃ k, k = len := ⟨_, rfl⟩
    obtain ⟨cap0, rfl⟩ : ∃ k, k = cap := ⟨_, rfl⟩
    have hmc : m = cap0 := by simpa using hmm
    have hel : ∀ i, i < len0 → ∃ x : List Int, x.length = fs.size ∧ (∀ n ∈ x, i64ok n) ∧ w.cells? base (a.add (i * fs.size)) fs.size = some (x.map (Value.int .i64)) := by
      intro i hil
      obtain ⟨cs', hc, ht'⟩ := hi i (by omega)
      rw [hC] at hc
      obtain ⟨ys, n', hn', hy, hlen, hyl, hfd⟩ := DataW.trod_struct he ht'
      obtain ⟨_, hcl, hat⟩ := World.cells?_some hc
      have hval : ∀ j (hj : j < cs'.length), ∃ z : Int, cs'[j] = .int .i64 z ∧ i64ok z := by
        intro j hj
        have hjl : j < fs.size := by omega
        have hfj : fs[j]? = some fs[j] := Array.getElem?_eq_getElem hjl
        obtain ⟨ho, hk⟩ := hone_of hone j _ hfj
        have h1 := hfd j _ hfj
        rw [ho, hk] at h1
        have hone' : (cs'.drop j).take 1 = [cs'[j]] := by
          rw [List.drop_eq_getElem_cons hj]; rfl
        rw [hone'] at h1
        have hys : ys[j]? = some (ys[j]'(by omega)) := List.getElem?_eq_getElem (by omega)
        obtain ⟨z, hz1, _, hz3⟩ := DataW.trod_int (hint j _ hfj) (h1.trans hys)
        exact ⟨z, by simpa using hz1, i64ok_of hz3⟩
      refine ⟨cs'.map fun v => match v with | .int _ z => z | _ => 0, by simp; omega, ?_, ?_⟩
      · intro n hn
        obtain ⟨v, hvm, rfl⟩ := List.mem_map.1 hn
        obtain ⟨j, hj, rfl⟩ := List.getElem_of_mem hvm
        obtain ⟨z, hz, hok⟩ := hval j hj
        rw [hz]; exact hok
      · rw [hc, List.map_map]
        congr 1
        apply List.ext_getElem
        · simp
        · intro j h1 h2
          obtain ⟨z, hz, _⟩ := hval j h1
          simp [hz]
    have key : ∀ k, k ≤ len0 → ∃ l : List (List Int), l.length = k ∧ (∀ x ∈ l, x.length = fs.size ∧ ∀ n ∈ x, i64ok n) ∧ ∀ i x, l[i]? = some x → w.cells? base (a.add (i * fs.size)) fs.size = some (x.map (Value.int .i64)) := by
      intro k
      induction k with
      | zero => exact fun _ => ⟨[], rfl, by simp, by simp⟩
      | succ k ih =>
        intro hk
        obtain ⟨l, h1, h2, h3⟩ := ih (by omega)
        obtain ⟨x, x1, x2, x3⟩ := hel k (by omega)
        refine ⟨l ++ [x], by simp [h1], ?_, ?_⟩
        · intro y hy
          rcases List.mem_append.1 hy with hy | hy
          · exact h2 y hy
          · simp at hy; subst hy; exact ⟨x1, x2⟩
        · intro i y hy
          by_cases hi : i < l.length
          · rw [List.getElem?_append_left hi] at hy; exact h3 i y hy
          · rw [List.getElem?_append_right (by omega)] at hy
            have : i = l.length := by
              rcases Nat.lt_or_ge (i - l.length) 1 with h | h
              · omega
              · rw [List.getElem?_eq_none (by simpa using h)] at hy; cases hy
            subst this
            simp at hy; subst hy
            rw [h1]; exact x3
    obtain ⟨l, l1, l2, l3⟩ := key len0 (Nat.le_refl _)
    subst l1
    refine ⟨some a, cap0, l, rfl, ⟨hl, by simpa [maxLen] using hm, fun x hx => by simp [(l2 x hx).1], fun hne => ?_⟩, l2⟩
    have hget : ∀ k x, l[k]? = some x → ∀ j, j < fs.size → w.cell? ((a.add (k * fs.size)).add j) = (x.map (Value.int .i64))[j]? := fun k x hx j hj => (World.cells?_some (l3 k x hx)).2.2 j hj
    have h0 : l[0]? = some (l[0]'(List.length_pos_iff.2 hne)) := List.getElem?_eq_getElem _
    have hx0 := (l2 _ (List.mem_of_getElem? h0)).1
    have hc0 := hget 0 _ h0 0 hpos
    have hv0 : ((l[0]'(List.length_pos_iff.2 hne)).map (Value.int .i64))[0]? = some (((l[0]'(List.length_pos_iff.2 hne)).map (Value.int .i64))[0]'(by simp; omega)) := List.getElem?_eq_getElem _
    rw [hv0] at hc0
    have e0 : (a.add (0 * fs.size)).add 0 = a := by simp [Addr.add]
    rw [e0] at hc0
    have hspot := World.cell?_spot hc0
    obtain ⟨b, off, sp⟩ := a
    dsimp only at hspot
    subst hspot
    have hbl : b < w.heap.size := by
      rcases Nat.lt_or_ge b w.heap.size with h | h
      · exact h
      · simp [World.cell?, Array.getElem?_eq_none h] at hc0
    refine ⟨b, off, rfl, hbl, fun i v hv => ?_⟩
    obtain ⟨x, hx, hvx⟩ := flat_get' _ fs.size hpos l i v (fun x hx => by simp [(l2 x hx).1]) hv
    have hj : i % fs.size < fs.size := Nat.mod_lt _ hpos
    have := hget _ x hx _ hj
    rw [Go.WideShapes.add_plain, Go.WideShapes.add_plain, hvx] at this
    rw [← this]
    congr 2
    have := Nat.div_add_mod i fs.size
    rw [Nat.mul_comm] at this
    omega

end
end Go.Mine

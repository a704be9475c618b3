/-
  Slices of numbers and slices of slices of numbers, as lists; the laws' arguments.
-/
import Derived.Test.YtnngemgfochodaaGreatPush2
import Derived.Test.YtnngemgfochodaaGreatLift2
namespace Go.Mine
open Go.RowKit Go.WideShapes Go.ChangeShapes Go.Deep Go.ChangeAt

def ic (n : Int) : List Value := [.int .i64 n]
def nI : Value → Int | .int _ q => q | _ => 0
abbrev Hd := Option Addr × Nat × List Int
def hc (e : Hd) : List Value := [.slice e.1 e.2.2.length e.2.1]
/-- a slice of slices that reads as a list of lists -/
def Rel (w : World) (A : Option Addr) (c : Nat) (ls : List (List Int)) : Prop := ∃ es : List Hd, es.map (fun e => e.2.2) = ls ∧ Sl hc 1 w A c es ∧ ∀ e ∈ es, Sl ic 1 w e.1 e.2.1 e.2.2
section
variable {w w' : World} {A : Option Addr} {c : Nat} {ls : List (List Int)}
theorem Rel.bel (h : Rel w A c ls) (hb : Below w.heap.size w w') : Rel w' A c ls := by obtain ⟨es, e1, e2, e3⟩ := h; exact ⟨es, e1, e2.bel hb, fun e he => (e3 e he).bel hb⟩
theorem Rel.alloc (h : Rel w A c ls) (o : Obj) : Rel (w.alloc o) A c ls := h.bel ((Below.refl _ _).alloc (Nat.le_refl _) _)
theorem Rel.drew (h : Rel w A c ls) : Rel w.drew A c ls := h.bel (Below.refl _ _).drew
theorem Rel.le (h : Rel w A c ls) : ls.length ≤ c := by obtain ⟨es, rfl, e2, e3⟩ := h; simpa using e2.le
theorem Rel.max (h : Rel w A c ls) : c ≤ 9223372036854775807 := by obtain ⟨es, rfl, e2, e3⟩ := h; exact e2.max
theorem Rel.nil (hc : c ≤ 9223372036854775807) : Rel w A c [] := ⟨[], rfl, Sl.nil hc, by simp⟩
theorem Rel.at_ (h : Rel w A c ls) {k : Nat} (hk : k < ls.length) : ∃ (l : List Int) (b off : Nat) (B : Option Addr) (d : Nat), ls[k]? = some l ∧ ls.drop k = l :: ls.drop (k + 1) ∧ A = some ⟨b, off, none⟩ ∧ b < w.heap.size ∧
    w.cell? ⟨b, off + k, none⟩ = some (.slice B l.length d) ∧ Sl ic 1 w B d l := by
  obtain ⟨es, rfl, e2, e3⟩ := h
  have hk' : k < es.length := by simpa using hk
  obtain ⟨x, b, off, hx, hd, rfl, hb, hc⟩ := e2.at_ hk'
  refine ⟨x.2.2, b, off, x.1, x.2.1, by rw [List.getElem?_map, hx]; rfl, by rw [← List.map_drop, hd, List.map_cons, List.map_drop], rfl, hb, ?_, e3 x (List.mem_of_getElem? hx)⟩
  have := hc 0 _ rfl
  simpa using this
theorem Sl.ic_at {l : List Int} (h : Sl ic 1 w A c l) {k : Nat} (hk : k < l.length) : ∃ (x : Int) (b off : Nat), l[k]? = some x ∧ l.drop k = x :: l.drop (k + 1) ∧ A = some ⟨b, off, none⟩ ∧ b < w.heap.size ∧ w.cell? ⟨b, off + k, none⟩ = some (.int .i64 x) := by
  obtain ⟨x, b, off, hx, hd, rfl, hb, hc⟩ := h.at_ hk
  exact ⟨x, b, off, hx, hd, rfl, hb, by simpa using hc 0 _ rfl⟩
end
section
variable {H : Type} {enc : TypeId × Value → H} {P : Program} {w : World} {base : Nat} {held : Bool}
/-- a slice of elements of one cell -/
theorem open_one {α : Type} {t e : TypeId} {fuel : Nat} {cs : List Value} {x : DataW H × List MemPlace} (g : α → Value) (Q : α → Prop) (ht : P.underlying t = some (.slice e)) (hC : P.cellsOf e = 1)
    (hel : ∀ n u z, DataW.trod enc P w base (fun _ => true) held n e [u] = some z → ∃ y, u = g y ∧ Q y) (h : DataW.trod enc P w base (fun _ => true) held fuel t cs = some x) :
    ∃ (A : Option Addr) (c : Nat) (l : List α), cs = [.slice A l.length c] ∧ Sl (fun y => [g y]) 1 w A c l ∧ ∀ y ∈ l, Q y := by
  rcases open_slice1 ht hC h with ⟨rfl, _⟩ | ⟨a, len, cap, m, n, V, D, Pl, rfl, hb, hl, hm, hmm, hx, hi⟩
  · exact ⟨none, 0, [], rfl, Sl.nil (by omega), by simp⟩
  · have hmc : m = cap := by simpa using hmm
    have key : ∀ k, k ≤ len → ∃ l : List α, l.length = k ∧ (∀ y ∈ l, Q y) ∧ ∀ i y, l[i]? = some y → w.cell? (a.add i) = some (g y) := by
      intro k
      induction k with
      | zero => exact fun _ => ⟨[], rfl, by simp, by simp⟩
      | succ k ih =>
        intro hk
        obtain ⟨l, h1, h2, h3⟩ := ih (by omega)
        obtain ⟨c1, c2⟩ := hi k (by omega)
        obtain ⟨y, e1, e2⟩ := hel _ _ _ c2
        refine ⟨l ++ [y], by simp [h1], fun z hz => ?_, fun i z hz => ?_⟩
        · rcases List.mem_append.1 hz with hz | hz
          · exact h2 z hz
          · simp at hz; subst hz; exact e2
        · by_cases hil : i < l.length
          · rw [List.getElem?_append_left hil] at hz; exact h3 i z hz
          · rw [List.getElem?_append_right (by omega)] at hz
            have : i = l.length := by
              rcases Nat.lt_or_ge (i - l.length) 1 with h | h
              · omega
              · rw [List.getElem?_eq_none (by simpa using h)] at hz; cases hz
            subst this
            simp at hz; subst hz
            rw [h1, c1, e1]
    obtain ⟨l, l1, l2, l3⟩ := key len (Nat.le_refl _)
    subst l1
    refine ⟨some a, cap, l, rfl, ⟨hl, by simpa [maxLen] using hm, fun _ _ => rfl, fun hne => ?_⟩, l2⟩
    have hpos := List.length_pos_iff.2 hne
    have hc0 := l3 0 _ (List.getElem?_eq_getElem hpos)
    have e0 : a.add 0 = a := by simp [Addr.add]
    rw [e0] at hc0
    have hspot := World.cell?_spot hc0
    obtain ⟨b, off, sp⟩ := a
    dsimp only at hspot
    subst hspot
    have hbl : b < w.heap.size := by
      rcases Nat.lt_or_ge b w.heap.size with h | h
      · exact h
      · simp [World.cell?, Array.getElem?_eq_none h] at hc0
    refine ⟨b, off, rfl, hbl, fun i v hv => ?_⟩
    have hfm : l.flatMap (fun y => [g y]) = l.map g := by rw [List.map_eq_flatMap]
    rw [hfm, List.getElem?_map] at hv
    obtain ⟨y, hy, rfl⟩ := Option.map_eq_some_iff.1 hv
    have := l3 i y hy
    rwa [Go.WideShapes.add_plain] at this
theorem open_ints1 {t e : TypeId} {fuel : Nat} {cs : List Value} {x : DataW H × List MemPlace} (ht : P.underlying t = some (.slice e)) (hC : P.cellsOf e = 1) (he : P.underlying e = some (.int .i64))
    (h : DataW.trod enc P w base (fun _ => true) held fuel t cs = some x) : ∃ (A : Option Addr) (c : Nat) (l : List Int), cs = [.slice A l.length c] ∧ Sl ic 1 w A c l ∧ ∀ y ∈ l, i64ok y :=
  open_one (fun n => .int .i64 n) i64ok ht hC (fun n u z hz => by
    obtain ⟨k, hk, _, hw⟩ := DataW.trod_int he hz
    exact ⟨k, by simpa using hk, i64ok_of hw⟩) h
/-- a slice of numbers as an argument -/
theorem open_is {b0 : Nat} {r : Reach} {t e : TypeId} {v : Value} {d : DataW H} {ps : List MemPlace} (ht : P.underlying t = some (.slice e)) (hC : P.cellsOf e = 1) (he : P.underlying e = some (.int .i64))
    (hv : Value.okWide P w r b0 t v) (h : DataW.Trod enc P w base (fun _ => true) held t v d ps) : ∃ (A : Option Addr) (c : Nat) (l : List Int), v = .slice A l.length c ∧ Sl ic 1 w A c l ∧ ∀ y ∈ l, i64ok y := by
  obtain ⟨a0, len0, cap0, rfl⟩ := okWide_slice ht hv
  obtain ⟨fuel, hf⟩ := h
  obtain ⟨A, c, l, h1, h2, h3⟩ := open_ints1 ht hC he hf
  exact ⟨A, c, l, by simpa [Value.cells] using h1, h2, h3⟩
/-- a slice of slices of numbers as an argument -/
theorem open_rel {b0 : Nat} {r : Reach} {t t1 e : TypeId} {v : Value} {d : DataW H} {ps : List MemPlace} (ht : P.underlying t = some (.slice t1)) (hC1 : P.cellsOf t1 = 1) (ht1 : P.underlying t1 = some (.slice e)) (hC : P.cellsOf e = 1) (he : P.underlying e = some (.int .i64))
    (hv : Value.okWide P w r b0 t v) (h : DataW.Trod enc P w base (fun _ => true) held t v d ps) : ∃ (A : Option Addr) (c : Nat) (ls : List (List Int)), v = .slice A ls.length c ∧ Rel w A c ls ∧ ∀ l ∈ ls, ∀ y ∈ l, i64ok y := by
  obtain ⟨a0, len0, cap0, rfl⟩ := okWide_slice ht hv
  obtain ⟨fuel, hf⟩ := h
  obtain ⟨A, c, es, h1, h2, h3⟩ := open_one (α := Hd) (fun e => .slice e.1 e.2.2.length e.2.1) (fun e => Sl ic 1 w e.1 e.2.1 e.2.2 ∧ ∀ y ∈ e.2.2, i64ok y) ht hC1 (fun n u z hz => by
    obtain ⟨B, d, l, k1, k2, k3⟩ := open_ints1 ht1 hC he hz
    exact ⟨(B, d, l), by simpa using k1, k2, k3⟩) hf
  refine ⟨A, c, es.map fun e => e.2.2, by simpa [Value.cells] using h1, ⟨es, rfl, h2, fun e he => (h3 e he).1⟩, fun l hl y hy => ?_⟩
  obtain ⟨e, he, rfl⟩ := List.mem_map.1 hl
  exact (h3 e he).2 y hy
end
end Go.Mine

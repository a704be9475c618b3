/-
  Small words over any program: a fact kept from the walk; a slice that reads as a list; an owned row that reads as a list; marks of loops over functions among the deferred calls.
-/
import Derived.Test.YtnngemgfochodaaGreatIter
import Derived.WalkKit
import Derived.WalkSpells
import Derived.WalkLawsBesides
import Derived.Maps.AppendAt
namespace Go.Mine
open Go.RowKit

theorem hide {p : Prop} (h : p) : Hid p := h
theorem ret_bool {a b : Bool} (h : a = b) : Ending.returned (.bool a) = .returned (.bool b) := by rw [h]
theorem ret_int {k : IntKind} {a b : Int} (h : a = b) : Ending.returned (.int k a) = .returned (.int k b) := by rw [h]
theorem val_int {k : IntKind} {a b : Int} (h : a = b) : Value.int k a = .int k b := by rw [h]
theorem val_bool {a b : Bool} (h : a = b) : Value.bool a = .bool b := by rw [h]

theorem bcell {B : Nat} {W w1 : World} (hb : Below B W w1) : (∀ b o, b < B → w1.cell? ⟨b, o, none⟩ = W.cell? ⟨b, o, none⟩) ∧ (∀ b o, b < B → w1.frozen? ⟨b, o, none⟩ = W.frozen? ⟨b, o, none⟩) :=
  ⟨fun b o h => hb.cell (p := ⟨b, o, none⟩) h, fun b o h => hb.frozen (p := ⟨b, o, none⟩) h⟩
theorem below_drewN {B : Nat} {a w : World} (h : Below B a w) (n : Nat) : Below B a (w.drewN n) := ⟨h.os, h.tape, h.output, h.size, h.block⟩

/-! ### flat lists of cells -/
theorem flat_length {α : Type} (f : α → List Value) (sz : Nat) : ∀ (l : List α), (∀ x ∈ l, (f x).length = sz) → (l.flatMap f).length = l.length * sz
  | [], _ => by simp
  | x :: l, h => by
    rw [List.flatMap_cons, List.length_append, h x (by simp), flat_length f sz l (fun y hy => h y (by simp [hy])), List.length_cons, Nat.succ_mul]; omega
theorem flat_get {α : Type} (f : α → List Value) (sz : Nat) : ∀ (l : List α) (k j : Nat) (x : α) (v : Value), (∀ x ∈ l, (f x).length = sz) → l[k]? = some x → (f x)[j]? = some v → (l.flatMap f)[k * sz + j]? = some v
  | [], k, j, x, v, _, hk, _ => by simp at hk
  | y :: l, 0, j, x, v, h, hk, hj => by
    simp at hk; subst hk
    have hlt := (List.getElem?_eq_some_iff.1 hj).1
    rw [List.flatMap_cons, Nat.zero_mul, Nat.zero_add, List.getElem?_append_left hlt]; exact hj
  | y :: l, k + 1, j, x, v, h, hk, hj => by
    have hy := h y (by simp)
    rw [List.flatMap_cons, List.getElem?_append_right (by rw [hy, Nat.succ_mul]; omega), hy, show (k + 1) * sz + j - sz = k * sz + j from by rw [Nat.succ_mul]; omega]
    exact flat_get f sz l k j x v (fun z hz => h z (by simp [hz])) (by simpa using hk) hj

/-- A slice value's address and capacity read, in w, as the list l, each element the cells 'f x'. -/
structure Sl {α : Type} (f : α → List Value) (sz : Nat) (w : World) (A : Option Addr) (c : Nat) (l : List α) : Prop where
  le : l.length ≤ c
  max : c ≤ 9223372036854775807
  size : ∀ x ∈ l, (f x).length = sz
  cells : l ≠ [] → ∃ b off, A = some ⟨b, off, none⟩ ∧ b < w.heap.size ∧ ∀ i v, (l.flatMap f)[i]? = some v → w.cell? ⟨b, off + i, none⟩ = some v

section
variable {α : Type} {f : α → List Value} {sz : Nat} {w w' : World} {A : Option Addr} {c : Nat} {l : List α}
theorem Sl.below (h : Sl f sz w A c l) {B : Nat} (hb : Below B w w') (hB : w.heap.size ≤ B) : Sl f sz w' A c l :=
  ⟨h.le, h.max, h.size, fun hn => by
    obtain ⟨b, off, e, hbw, hc⟩ := h.cells hn
    exact ⟨b, off, e, Nat.lt_of_lt_of_le hbw hb.size, fun i v hv => (hb.cell (p := ⟨b, off + i, none⟩) (Nat.lt_of_lt_of_le hbw hB)).trans (hc i v hv)⟩⟩
theorem Sl.bel (h : Sl f sz w A c l) (hb : Below w.heap.size w w') : Sl f sz w' A c l := h.below hb (Nat.le_refl _)
theorem Sl.alloc (h : Sl f sz w A c l) (o : Obj) : Sl f sz (w.alloc o) A c l := h.bel ((Below.refl _ _).alloc (Nat.le_refl _) _)
theorem Sl.drew (h : Sl f sz w A c l) : Sl f sz w.drew A c l := h.bel (Below.refl _ _).drew
theorem Sl.nil (hc : c ≤ 9223372036854775807) : Sl f sz w A c ([] : List α) := ⟨by simp, hc, by simp, by simp⟩
theorem Sl.at_ (h : Sl f sz w A c l) {k : Nat} (hk : k < l.length) : ∃ x b off, l[k]? = some x ∧ l.drop k = x :: l.drop (k + 1) ∧ A = some ⟨b, off, none⟩ ∧ b < w.heap.size ∧
    ∀ j v, (f x)[j]? = some v → w.cell? ⟨b, off + (k * sz + j), none⟩ = some v := by
  obtain ⟨b, off, e, hbw, hc⟩ := h.cells (by intro e; subst e; simp at hk)
  refine ⟨l[k], b, off, List.getElem?_eq_getElem hk, List.drop_eq_getElem_cons hk, e, hbw, fun j v hv => ?_⟩
  exact hc _ v (flat_get f sz l k j _ v h.size (List.getElem?_eq_getElem hk) hv)
/-- the address is one for the whole list -/
theorem Sl.addr (h : Sl f sz w A c l) (hn : l ≠ []) : ∃ b off, A = some ⟨b, off, none⟩ ∧ b < w.heap.size ∧ ∀ k x, l[k]? = some x → ∀ j v, (f x)[j]? = some v → w.cell? ⟨b, off + (k * sz + j), none⟩ = some v := by
  obtain ⟨b, off, e, hbw, hc⟩ := h.cells hn
  exact ⟨b, off, e, hbw, fun k x hx j v hv => hc _ v (flat_get f sz l k j _ v h.size hx hv)⟩
end

/-- A value that is a slice reading as l. -/
def SlV {α : Type} (f : α → List Value) (sz : Nat) (w : World) (v : Value) (l : List α) : Prop := ∃ A c, v = .slice A l.length c ∧ Sl f sz w A c l

/-- An owned row (the call's own memory from block 'base' on) that reads as l. -/
def OwnL {α : Type} (f : α → List Value) (sz : Nat) (e : TypeId) (w : World) (base : Nat) (v : Value) (l : List α) : Prop :=
  w.ownsRow base e sz v l.length (l.flatMap f) ∧ ∀ x ∈ l, (f x).length = sz

theorem OwnL.sl {α : Type} {f : α → List Value} {sz : Nat} {e : TypeId} {w : World} {base : Nat} {v : Value} {l : List α} (h : OwnL f sz e w base v l) : SlV f sz w v l := by
  obtain ⟨⟨hl, h1⟩, hs⟩ := h
  rcases h1 with ⟨rfl, hn⟩ | ⟨g, cap, cur, rfl, hg, hh, hn, hc, hz, ht⟩
  · have : l = [] := List.length_eq_zero_iff.1 hn
    subst this
    exact ⟨none, 0, rfl, Sl.nil (by omega)⟩
  · refine ⟨some ⟨g, 0, none⟩, cap, rfl, hn, by simpa [maxLen] using hc, hs, fun hne => ⟨g, 0, rfl, (Array.getElem?_eq_some_iff.1 hh).1, fun i u hu => ?_⟩⟩
    rw [World.cell?, hh]
    simp only [Nat.zero_add]
    have hlt := (List.getElem?_eq_some_iff.1 hu).1
    rw [hl] at hlt
    rw [← ht, List.getElem?_take_of_lt hlt] at hu
    simpa using hu
theorem OwnL.nil {α : Type} (f : α → List Value) (sz : Nat) (e : TypeId) (w : World) (base : Nat) : OwnL f sz e w base (.slice none 0 0) ([] : List α) :=
  ⟨⟨by simp, .inl ⟨rfl, rfl⟩⟩, by simp⟩
theorem OwnL.keep {α : Type} {f : α → List Value} {sz : Nat} {e : TypeId} {w w' : World} {base : Nat} {v : Value} {l : List α} (h : OwnL f sz e w base v l)
    (hk : ∀ g, v.ownBlock = some g → w'.heap[g]? = w.heap[g]?) : OwnL f sz e w' base v l := by
  obtain ⟨⟨hl, h1⟩, hs⟩ := h
  refine ⟨⟨hl, ?_⟩, hs⟩
  rcases h1 with ⟨rfl, hn⟩ | ⟨g, cap, cur, rfl, hg, hh, r⟩
  · exact .inl ⟨rfl, hn⟩
  · exact .inr ⟨g, cap, cur, rfl, hg, (hk g rfl).trans hh, r⟩
theorem OwnL.blk {α : Type} {f : α → List Value} {sz : Nat} {e : TypeId} {w : World} {base : Nat} {v : Value} {l : List α} (h : OwnL f sz e w base v l) {g : Nat} (hg : v.ownBlock = some g) :
    base ≤ g ∧ g < w.heap.size ∧ ∃ cur, w.heap[g]? = some (.cells cur e (0, 0)) := by
  obtain ⟨⟨hl, h1⟩, hs⟩ := h
  rcases h1 with ⟨rfl, hn⟩ | ⟨g', cap, cur, rfl, hg', hh, r⟩
  · simp [Value.ownBlock] at hg
  · simp [Value.ownBlock] at hg
    subst hg
    exact ⟨hg', (Array.getElem?_eq_some_iff.1 hh).1, cur, hh⟩
theorem OwnL.bel {α : Type} {f : α → List Value} {sz : Nat} {e : TypeId} {w w' : World} {base : Nat} {v : Value} {l : List α} (h : OwnL f sz e w base v l) (hb : Below w.heap.size w w') : OwnL f sz e w' base v l :=
  h.keep fun g hg => hb.block g (h.blk hg).2.1
theorem OwnL.mono {α : Type} {f : α → List Value} {sz : Nat} {e : TypeId} {w : World} {base base' : Nat} {v : Value} {l : List α} (h : OwnL f sz e w base v l) (hb : base' ≤ base) : OwnL f sz e w base' v l := by
  obtain ⟨⟨hl, h1⟩, hs⟩ := h
  refine ⟨⟨hl, ?_⟩, hs⟩
  rcases h1 with h1 | ⟨g, cap, cur, rfl, hg, r⟩
  · exact .inl h1
  · exact .inr ⟨g, cap, cur, rfl, Nat.le_trans hb hg, r⟩

/-! ### a box: a block of one cell, none of the iterator's -/
structure Bx (O : Nat → Prop) (W : World) (b : Nat) (t : TypeId) (v : Value) : Prop where
  no : ¬ O b
  at_ : W.heap[b]? = some (.cells #[v] t (0, 0))
section
variable {O O' : Nat → Prop} {W W' : World} {b : Nat} {t : TypeId} {v : Value}
theorem Bx.lt (h : Bx O W b t v) : b < W.heap.size := (Array.getElem?_eq_some_iff.1 h.at_).1
theorem Bx.cell (h : Bx O W b t v) : W.cell? ⟨b, 0, none⟩ = some v := by simp [World.cell?, h.at_]
theorem Bx.frozen (h : Bx O W b t v) : W.frozen? ⟨b, 0, none⟩ = false := by simp [World.frozen?, h.at_]
theorem Bx.step (h : Bx O W b t v) (s : IStep O O' W W') : Bx O' W' b t v :=
  ⟨fun h' => by rcases (s.owns b).1 h' with h1 | h1; exact h.no h1; have := h.lt; omega, (s.keep b h.lt h.no).trans h.at_⟩
theorem Bx.bel (h : Bx O W b t v) (s : Below W.heap.size W W') : Bx O W' b t v := ⟨h.no, (s.block b h.lt).trans h.at_⟩
theorem Bx.alloc (h : Bx O W b t v) (o : Obj) : Bx O (W.alloc o) b t v := ⟨h.no, (Below.heap_alloc _ _ _ h.lt).trans h.at_⟩
theorem Bx.drew (h : Bx O W b t v) : Bx O W.drew b t v := ⟨h.no, h.at_⟩
theorem Bx.far (h : Bx O W b t v) {p : Addr} (u : Value) (hp : b ≠ p.block) : Bx O (W.setCell p u) b t v := ⟨h.no, (Below.heap_setCell _ _ _ _ hp).trans h.at_⟩
theorem Bx.set (h : Bx O W b t v) (u : Value) : Bx O (W.setCell ⟨b, 0, none⟩ u) b t u := ⟨h.no, by simp [World.setCell, Array.getElem?_modify, h.at_]⟩
theorem Bx.of (hn : ¬ O b) (h : W.heap[b]? = some (.cells #[v] t (0, 0))) : Bx O W b t v := ⟨hn, h⟩
theorem Bx.grown (h : Bx O W b t v) {row : Option Nat} (hg : W.grownBy W' row) (hr : some b ≠ row) : Bx O W' b t v := ⟨h.no, (hg.block b h.lt hr).trans h.at_⟩
theorem heap_new (w : World) (o : Obj) : (w.alloc o).heap[w.heap.size]? = some o := World.alloc_heap_new w o
end
theorem IStep.below {O O' : Nat → Prop} {A W W' : World} {B : Nat} (s : IStep O O' W W') (h : Below B A W) (hB : B ≤ W.heap.size) (hO : ∀ b, O b → B ≤ b) : Below B A W' :=
  h.trans ⟨s.os, s.tape, s.output, s.size, fun k hk => s.keep k (by omega) (fun h' => by have := hO k h'; omega)⟩

theorem gb_drew {a w : World} {row : Option Nat} (h : a.grownBy w row) : a.grownBy w.drew row := ⟨h.os, h.tape, h.output, h.size, h.block⟩
theorem gb_drewN {a w : World} {row : Option Nat} (h : a.grownBy w row) (n : Nat) : a.grownBy (w.drewN n) row := ⟨h.os, h.tape, h.output, h.size, h.block⟩
theorem gb_alloc {a w : World} {row : Option Nat} (h : a.grownBy w row) (o : Obj) : a.grownBy (w.alloc o) row :=
  ⟨h.os, h.tape, h.output, Nat.le_trans h.size (by simp), fun i hi hne => (Below.heap_alloc w o i (Nat.lt_of_lt_of_le hi h.size)).trans (h.block i hi hne)⟩
theorem gb_set {a w : World} {g : Nat} (h : a.grownBy w (some g)) {p : Addr} (hp : p.block = g ∨ a.heap.size ≤ p.block) (u : Value) : a.grownBy (w.setCell p u) (some g) :=
  ⟨h.os, h.tape, h.output, by simpa [World.setCell] using h.size, fun i hi hne => (Below.heap_setCell w p u i (by
    rintro rfl
    rcases hp with hp | hp
    · exact hne (by rw [hp])
    · omega)).trans (h.block i hi hne)⟩
theorem gb_below {a w : World} (h : Below a.heap.size a w) (row : Option Nat) : a.grownBy w row := ⟨h.os, h.tape, h.output, h.size, fun i hi _ => h.block i hi⟩
theorem gb_trans {a b c : World} {row : Option Nat} (h : a.grownBy b row) (k : b.grownBy c row) : a.grownBy c row :=
  ⟨k.os.trans h.os, k.tape.trans h.tape, k.output.trans h.output, Nat.le_trans h.size k.size, fun i hi hne => (k.block i (Nat.lt_of_lt_of_le hi h.size) hne).trans (h.block i hi hne)⟩
theorem heap_set_at {w : World} {g i : Nat} {cur : Array Value} {e : TypeId} {f : Nat × Nat} (h : w.heap[g]? = some (.cells cur e f)) (u : Value) : (w.setCell ⟨g, i, none⟩ u).heap[g]? = some (.cells (cur.setIfInBounds i u) e f) := by
  simp [World.setCell, Array.getElem?_modify, h]
theorem heap_alloc_at {w : World} {g : Nat} {x : Obj} (h : w.heap[g]? = some x) (o : Obj) : (w.alloc o).heap[g]? = some x := (Below.heap_alloc _ _ _ (Array.getElem?_eq_some_iff.1 h).1).trans h

theorem row_cells {W : World} {g : Nat} {cs : Array Value} {e : TypeId} {f : Nat × Nat} (h : W.heap[g]? = some (.cells cs e f)) (l : List Value) (hl : cs.toList = l) : ∀ j u, l[j]? = some u → W.cell? ((⟨g, 0, none⟩ : Addr).add j) = some u := by
  intro j u hu
  have : ((⟨g, 0, none⟩ : Addr).add j) = ⟨g, j, none⟩ := by unfold Addr.add; split <;> simp_all
  rw [this, World.cell?, h]
  subst hl
  simpa using hu
theorem new_row1 (w : World) (o : Obj) (x : Obj) : ((w.alloc o).alloc x).heap[w.heap.size + 1]? = some x := by have := heap_new (w.alloc o) x; rwa [World.size_alloc] at this
theorem new_row2 (w : World) (o o' : Obj) (x : Obj) : (((w.alloc o).alloc o').alloc x).heap[w.heap.size + 1 + 1]? = some x := by have := heap_new ((w.alloc o).alloc o') x; rwa [World.size_alloc, World.size_alloc] at this
theorem OwnL.append {α : Type} {f : α → List Value} {sz : Nat} {e : TypeId} {w w1 : World} {base : Nat} {v v' : Value} {l : List α} {x : α} (h : OwnL f sz e w base v l) (hx : (f x).length = sz) (hw : w1.ownsRow base e sz v' (l.length + 1) (l.flatMap f ++ f x)) : OwnL f sz e w1 base v' (l ++ [x]) :=
  ⟨by simpa using hw, by intro y hy; rcases List.mem_append.1 hy with hy | hy; exact h.2 y hy; simp at hy; subst hy; exact hx⟩
theorem OwnL.alloc {α : Type} {f : α → List Value} {sz : Nat} {e : TypeId} {w : World} {base : Nat} {v : Value} {l : List α} (h : OwnL f sz e w base v l) (o : Obj) : OwnL f sz e (w.alloc o) base v l := h.bel ((Below.refl _ _).alloc (Nat.le_refl _) _)
theorem OwnL.drew {α : Type} {f : α → List Value} {sz : Nat} {e : TypeId} {w : World} {base : Nat} {v : Value} {l : List α} (h : OwnL f sz e w base v l) : OwnL f sz e w.drew base v l := h.bel (Below.refl _ _).drew
theorem OwnL.grown {α : Type} {f : α → List Value} {sz : Nat} {e : TypeId} {w w' : World} {base : Nat} {v : Value} {l : List α} (h : OwnL f sz e w base v l) {row : Option Nat} (hg : w.grownBy w' row) (hr : ∀ g, v.ownBlock = some g → some g ≠ row) : OwnL f sz e w' base v l :=
  h.keep fun g hgo => hg.block g (h.blk hgo).2.1 (hr g hgo)

/-- an owned row that is none of the iterator's -/
structure OwnO {α : Type} (f : α → List Value) (sz : Nat) (e : TypeId) (O : Nat → Prop) (w : World) (base : Nat) (v : Value) (l : List α) : Prop where
  own : OwnL f sz e w base v l
  no : ∀ g, v.ownBlock = some g → ¬ O g
theorem OwnO.step {α : Type} {f : α → List Value} {sz : Nat} {e : TypeId} {O O' : Nat → Prop} {w w' : World} {base : Nat} {v : Value} {l : List α} (h : OwnO f sz e O w base v l) (s : IStep O O' w w') : OwnO f sz e O' w' base v l :=
  ⟨h.own.keep fun g hg => s.keep g (h.own.blk hg).2.1 (h.no g hg), fun g hg hO => by
    rcases (s.owns g).1 hO with h1 | h1
    · exact h.no g hg h1
    · have := (h.own.blk hg).2.1; omega⟩
theorem OwnO.put {α : Type} {f : α → List Value} {sz : Nat} {e : TypeId} {O : Nat → Prop} {w : World} {base : Nat} {v : Value} {l : List α} (h : OwnO f sz e O w base v l) {D : Nat} (o : Obj) (hD : O D) : OwnO f sz e O (w.putObj D o) base v l :=
  ⟨h.own.keep fun g hg => World.putObj_heap_other (fun e => h.no g hg (e ▸ hD)), h.no⟩

/-! ### marks -/
def marksOf (ds : List Nat) : List Deferred := ds.map fun r => { target := .collected r, args := #[] }

theorem leaves_marks {F : Fence} {n : Nat} {P : Program} {fn : Func} {tmps : Array Value} {R : Ending → World → Prop} {u : FrameMode} (hu : u ≠ .run) :
    ∀ (ds : List Nat) (w : World), (∀ r ∈ ds, w.heap[r]? = some (.deferred (some []))) → ds.Nodup →
      (∀ w', IStep (· ∈ ds) (· ∈ ds) w w' → w'.heap.size = w.heap.size → LeavesInM F n P fn tmps R [] u w') → LeavesInM F n P fn tmps R (marksOf ds) u w
  | [], w, _, _, h => h w (IStep.refl _ _) rfl
  | r :: ds, w, hd, hn, h => by
    obtain ⟨hr, hn'⟩ := List.nodup_cons.1 hn
    refine ⟨hu, .inl ⟨r, _, rfl, run_takeDeferred (hd r (by simp)), ?_⟩⟩
    refine leaves_marks hu ds _ (fun q hq => (World.putObj_heap_other (fun e => hr (by rw [← e]; exact hq))).trans (hd q (by simp [hq]))) hn' (fun w' st hz => h w' ?_ (by rw [hz]; simp))
    have s1 : IStep (· ∈ r :: ds) (· ∈ r :: ds) w (w.putObj r (.deferred none)) := IStep.putObj _ _ _ (by simp)
    refine s1.trans ⟨st.os, st.tape, st.output, st.size, fun b hb hO => st.keep b hb (fun h' => hO (by simp [h'])), fun b => ?_⟩
    rw [hz]; constructor
    · exact .inl
    · rintro (h | h)
      · exact h
      · omega

theorem leaves_mark1 {F : Fence} {n : Nat} {P : Program} {fn : Func} {tmps : Array Value} {R : Ending → World → Prop} {D : Nat} {w : World} {v : Value} (hD : w.heap[D]? = some (.deferred (some [])))
    (hres : (results fn tmps).run P (w.putObj D (.deferred none)) = .ok v (w.putObj D (.deferred none))) (hR : R (.returned v) (w.putObj D (.deferred none))) :
    LeavesInM F n P fn tmps R [{ target := .collected D, args := #[] }] .returning w :=
  ⟨by simp, .inl ⟨D, _, rfl, run_takeDeferred hD, v, hres, hR⟩⟩
theorem Bx.put {O : Nat → Prop} {W : World} {b : Nat} {t : TypeId} {v : Value} (h : Bx O W b t v) {D : Nat} (o : Obj) (hD : b ≠ D) : Bx O (W.putObj D o) b t v := ⟨h.no, (World.putObj_heap_other hD).trans h.at_⟩
theorem below_put {B : Nat} {A W : World} (h : Below B A W) {D : Nat} (o : Obj) (hD : B ≤ D) : Below B A (W.putObj D o) :=
  h.trans ⟨rfl, rfl, rfl, by simp, fun k hk => World.putObj_heap_other (by omega)⟩
theorem put_other {W : World} {D k : Nat} {o : Obj} {x : Obj} (h : W.heap[k]? = some x) (hD : k ≠ D) : (W.putObj D o).heap[k]? = some x := (World.putObj_heap_other hD).trans h
theorem set_other {W : World} {a : Addr} {u : Value} {k : Nat} {x : Obj} (h : W.heap[k]? = some x) (hD : k ≠ a.block) : (W.setCell a u).heap[k]? = some x := (Below.heap_setCell _ _ _ _ hD).trans h

end Go.Mine

/-
  Layer 46 (regions), plainly: boxes on a picture; the critical places; no place is lower.
-/
namespace Go.Mine.R

/-- a rectangle: x, y, width, height -/
structure Rc where
  x : Int
  y : Int
  w : Int
  h : Int
deriving DecidableEq
def pix (n : Int) : Bool := decide (0 < n) && decide (n ≤ 16384)
def lies (W H : Int) (r : Rc) : Bool := decide (0 ≤ r.x) && decide (0 ≤ r.y) && pix r.w && pix r.h && decide (r.x ≤ W - r.w) && decide (r.y ≤ H - r.h)
def hit (a b : Rc) : Bool := decide (a.x < b.x + b.w) && decide (b.x < a.x + a.w) && decide (a.y < b.y + b.h) && decide (b.y < a.y + a.h)
theorem hit_iff {a b : Rc} : hit a b = true ↔ a.x < b.x + b.w ∧ b.x < a.x + a.w ∧ a.y < b.y + b.h ∧ b.y < a.y + a.h := by
  simp only [hit, Bool.and_eq_true, decide_eq_true_eq, and_assoc]
/-- a box of w by h at (x, y) touches no region -/
def free (bl : List Rc) (w h x y : Int) : Bool := bl.all fun r => !hit ⟨x, y, w, h⟩ r
theorem free_iff {bl : List Rc} {w h x y : Int} : free bl w h x y = true ↔ ∀ r ∈ bl, ¬ hit ⟨x, y, w, h⟩ r = true := by
  simp [free]
def fit (W H : Int) (bl : List Rc) (w h x y : Int) : Prop := 0 ≤ x ∧ x ≤ W - w ∧ 0 ≤ y ∧ y ≤ H - h ∧ free bl w h x y = true
def rowB (H : Int) (bl : List Rc) (h y : Int) : Prop := y = H - h ∨ ∃ r ∈ bl, y = r.y - h
def colB (bl : List Rc) (x : Int) : Prop := x = 0 ∨ ∃ r ∈ bl, x = r.x + r.w
theorem lower {W H : Int} {bl : List Rc} {w h x y : Int} (hf : fit W H bl w h x y) (hn : ¬ rowB H bl h y) : fit W H bl w h x (y + 1) := by
  obtain ⟨h1, h2, h3, h4, h5⟩ := hf
  have hy : y ≠ H - h := fun e => hn (.inl e)
  refine ⟨h1, h2, by omega, by omega, free_iff.2 fun r hr hh => ?_⟩
  have h6 := free_iff.1 h5 r hr
  have h7 : y ≠ r.y - h := fun e => hn (.inr ⟨r, hr, e⟩)
  rw [hit_iff] at hh h6
  dsimp only at hh h6
  exact h6 ⟨by omega, by omega, by omega, by omega⟩
theorem lefter {W H : Int} {bl : List Rc} {w h x y : Int} (hf : fit W H bl w h x y) (hn : ¬ colB bl x) : fit W H bl w h (x - 1) y := by
  obtain ⟨h1, h2, h3, h4, h5⟩ := hf
  have hx : x ≠ 0 := fun e => hn (.inl e)
  refine ⟨by omega, by omega, h3, h4, free_iff.2 fun r hr hh => ?_⟩
  have h6 := free_iff.1 h5 r hr
  have h7 : x ≠ r.x + r.w := fun e => hn (.inr ⟨r, hr, e⟩)
  rw [hit_iff] at hh h6
  dsimp only at hh h6
  exact h6 ⟨by omega, by omega, by omega, by omega⟩
/-- from each place at which the box fits there is a critical one that is no higher, and not farther to the right in the same row -/
theorem better {W H : Int} {bl : List Rc} {w h : Int} : ∀ (m n : Nat) (x y : Int), fit W H bl w h x y → (H - h - y).toNat = m → x.toNat = n →
    ∃ x' y', fit W H bl w h x' y' ∧ rowB H bl h y' ∧ colB bl x' ∧ (y < y' ∨ y = y' ∧ x' ≤ x) := by
  intro m
  induction m with
  | zero =>
    intro n
    induction n with
    | zero =>
      intro x y hf hm hn
      obtain ⟨h1, h2, h3, h4, h5⟩ := hf
      exact ⟨x, y, ⟨h1, h2, h3, h4, h5⟩, .inl (by omega), .inl (by omega), .inr ⟨rfl, Int.le_refl _⟩⟩
    | succ n ih =>
      intro x y hf hm hn
      by_cases hc : colB bl x
      · obtain ⟨h1, h2, h3, h4, h5⟩ := hf
        exact ⟨x, y, ⟨h1, h2, h3, h4, h5⟩, .inl (by omega), hc, .inr ⟨rfl, Int.le_refl _⟩⟩
      · obtain ⟨x', y', g1, g2, g3, g4⟩ := ih (x - 1) y (lefter hf hc) hm (by omega)
        exact ⟨x', y', g1, g2, g3, by omega⟩
  | succ m ihm =>
    intro n
    induction n with
    | zero =>
      intro x y hf hm hn
      by_cases hr : rowB H bl h y
      · have hf' := hf
        obtain ⟨h1, h2, h3, h4, h5⟩ := hf
        exact ⟨x, y, hf', hr, .inl (by omega), .inr ⟨rfl, Int.le_refl _⟩⟩
      · obtain ⟨x', y', g1, g2, g3, g4⟩ := ihm _ x (y + 1) (lower hf hr) (by omega) rfl
        exact ⟨x', y', g1, g2, g3, by omega⟩
    | succ n ih =>
      intro x y hf hm hn
      by_cases hr : rowB H bl h y
      · by_cases hc : colB bl x
        · exact ⟨x, y, hf, hr, hc, .inr ⟨rfl, Int.le_refl _⟩⟩
        · obtain ⟨x', y', g1, g2, g3, g4⟩ := ih (x - 1) y (lefter hf hc) hm (by omega)
          exact ⟨x', y', g1, g2, g3, by omega⟩
      · obtain ⟨x', y', g1, g2, g3, g4⟩ := ihm _ x (y + 1) (lower hf hr) (by omega) rfl
        exact ⟨x', y', g1, g2, g3, by omega⟩
/-! ### the critical places, in order -/
/-- increasing lists -/
def put (l : List Int) (n : Int) : List Int := if n ∈ l then l else l.filter (fun x => decide (x < n)) ++ n :: l.filter (fun x => !decide (x < n))
theorem put_mem (l : List Int) (n x : Int) : x ∈ put l n ↔ x = n ∨ x ∈ l := by
  unfold put
  split
  · rename_i h
    constructor
    · exact .inr
    · rintro (rfl | h'); exact h; exact h'
  · simp only [List.mem_append, List.mem_cons, List.mem_filter, decide_eq_true_eq, Bool.not_eq_true', decide_eq_false_iff_not]
    constructor
    · rintro (⟨h, _⟩ | rfl | ⟨h, _⟩)
      · exact .inr h
      · exact .inl rfl
      · exact .inr h
    · rintro (rfl | h)
      · exact .inr (.inl rfl)
      · by_cases c : x < n
        · exact .inl ⟨h, c⟩
        · exact .inr (.inr ⟨h, c⟩)
theorem put_sorted {l : List Int} {n : Int} (h : l.Pairwise (· < ·)) : (put l n).Pairwise (· < ·) := by
  unfold put
  split
  · exact h
  · rename_i hn
    refine List.pairwise_append.2 ⟨h.filter _, List.pairwise_cons.2 ⟨fun x hx => ?_, h.filter _⟩, fun x hx y hy => ?_⟩
    · simp only [List.mem_filter, Bool.not_eq_true', decide_eq_false_iff_not] at hx
      have : x ≠ n := fun e => hn (e ▸ hx.1)
      omega
    · simp only [List.mem_filter, decide_eq_true_eq] at hx
      rcases List.mem_cons.1 hy with rfl | hy
      · exact hx.2
      · simp only [List.mem_filter, Bool.not_eq_true', decide_eq_false_iff_not] at hy
        omega
/-- the reference's put: within bounds alone -/
def putIn (most : Int) (l : List Int) (n : Int) : List Int := if n < 0 ∨ most < n then l else put l n
theorem putIn_mem (most : Int) (l : List Int) (n x : Int) : x ∈ putIn most l n ↔ (x = n ∧ 0 ≤ x ∧ x ≤ most) ∨ x ∈ l := by
  unfold putIn
  split
  · constructor
    · exact .inr
    · rintro (⟨rfl, h1, h2⟩ | h)
      · omega
      · exact h
  · rw [put_mem]
    constructor
    · rintro (rfl | h)
      · exact .inl ⟨rfl, by omega, by omega⟩
      · exact .inr h
    · rintro (⟨rfl, _⟩ | h)
      · exact .inl rfl
      · exact .inr h
theorem putIn_sorted {most : Int} {l : List Int} {n : Int} (h : l.Pairwise (· < ·)) : (putIn most l n).Pairwise (· < ·) := by
  unfold putIn
  split
  · exact h
  · exact put_sorted h
def rowsL (H h : Int) (bl : List Rc) : List Int := bl.foldl (fun l r => putIn (H - h) l (r.y - h)) (putIn (H - h) [] (H - h))
def colsL (W w : Int) (bl : List Rc) : List Int := bl.foldl (fun l r => putIn (W - w) l (r.x + r.w)) (putIn (W - w) [] 0)
theorem fold_sorted {most : Int} (g : Rc → Int) : ∀ (bl : List Rc) (l : List Int), l.Pairwise (· < ·) → (bl.foldl (fun l r => putIn most l (g r)) l).Pairwise (· < ·)
  | [], _, h => h
  | r :: bl, l, h => fold_sorted g bl _ (putIn_sorted h)
theorem fold_mem {most : Int} (g : Rc → Int) (x : Int) : ∀ (bl : List Rc) (l : List Int), x ∈ bl.foldl (fun l r => putIn most l (g r)) l ↔ ((∃ r ∈ bl, x = g r) ∧ 0 ≤ x ∧ x ≤ most) ∨ x ∈ l
  | [], l => by simp
  | r :: bl, l => by
    rw [List.foldl_cons, fold_mem g x bl, putIn_mem]
    constructor
    · rintro (⟨⟨r', hr, e⟩, h⟩ | ⟨e, h⟩ | h)
      · exact .inl ⟨⟨r', by simp [hr], e⟩, h⟩
      · exact .inl ⟨⟨r, by simp, e⟩, h⟩
      · exact .inr h
    · rintro (⟨⟨r', hr, e⟩, h⟩ | h)
      · rcases List.mem_cons.1 hr with rfl | hr
        · exact .inr (.inl ⟨e, h⟩)
        · exact .inl ⟨⟨r', hr, e⟩, h⟩
      · exact .inr (.inr h)
theorem rows_sorted (H h : Int) (bl : List Rc) : (rowsL H h bl).Pairwise (· < ·) := fold_sorted (fun r => r.y - h) bl _ (putIn_sorted (by simp))
theorem cols_sorted (W w : Int) (bl : List Rc) : (colsL W w bl).Pairwise (· < ·) := fold_sorted (fun r => r.x + r.w) bl _ (putIn_sorted (by simp))
theorem rows_mem {H h : Int} {bl : List Rc} {y : Int} : y ∈ rowsL H h bl ↔ rowB H bl h y ∧ 0 ≤ y ∧ y ≤ H - h := by
  unfold rowsL rowB
  rw [fold_mem (fun r => r.y - h), putIn_mem]
  simp only [List.not_mem_nil, or_false]
  constructor
  · rintro (⟨h1, h2⟩ | ⟨h1, h2⟩)
    · exact ⟨.inr h1, h2⟩
    · exact ⟨.inl h1, h2⟩
  · rintro ⟨h1 | h1, h2⟩
    · exact .inr ⟨h1, h2⟩
    · exact .inl ⟨h1, h2⟩
theorem cols_mem {W w : Int} {bl : List Rc} {x : Int} : x ∈ colsL W w bl ↔ colB bl x ∧ 0 ≤ x ∧ x ≤ W - w := by
  unfold colsL colB
  rw [fold_mem (fun r => r.x + r.w), putIn_mem]
  simp only [List.not_mem_nil, or_false]
  constructor
  · rintro (⟨h1, h2⟩ | ⟨h1, h2⟩)
    · exact ⟨.inr h1, h2⟩
    · exact ⟨.inl h1, h2⟩
  · rintro ⟨h1 | h1, h2⟩
    · exact .inr ⟨h1, h2⟩
    · exact .inl ⟨h1, h2⟩
/-- the critical places in which a box lies on the picture, the lowest row first -/
def places (W H : Int) (bl : List Rc) (w h : Int) : List (Int × Int) := (rowsL H h bl).reverse.flatMap fun y => (colsL W w bl).map fun x => (x, y)
theorem places_mem {W H : Int} {bl : List Rc} {w h : Int} {p : Int × Int} : p ∈ places W H bl w h ↔ p.1 ∈ colsL W w bl ∧ p.2 ∈ rowsL H h bl := by
  simp only [places, List.mem_flatMap, List.mem_reverse, List.mem_map]
  constructor
  · rintro ⟨y, hy, x, hx, rfl⟩; exact ⟨hx, hy⟩
  · rintro ⟨hx, hy⟩; exact ⟨p.2, hy, p.1, hx, rfl⟩
def before (p q : Int × Int) : Prop := q.2 < p.2 ∨ p.2 = q.2 ∧ p.1 < q.1
theorem places_sorted (W H : Int) (bl : List Rc) (w h : Int) : (places W H bl w h).Pairwise before := by
  unfold places
  refine List.pairwise_flatMap.2 ⟨fun y _ => ?_, ?_⟩
  · rw [List.pairwise_map]
    exact (cols_sorted W w bl).imp fun hab => .inr ⟨rfl, hab⟩
  · refine (List.pairwise_reverse.2 ((rows_sorted H h bl).imp fun {a b} hab => ?_))
    intro p hp q hq
    obtain ⟨x, _, rfl⟩ := List.mem_map.1 hp
    obtain ⟨x', _, rfl⟩ := List.mem_map.1 hq
    exact .inl hab
/-- the place that is found -/
def place (W H : Int) (bl : List Rc) (w h : Int) : Option (Int × Int) := (places W H bl w h).find? fun p => free bl w h p.1 p.2
theorem find_first {α : Type} {R : α → α → Prop} {p : α → Bool} : ∀ {l : List α}, l.Pairwise R → ∀ {a b : α}, l.find? p = some a → b ∈ l → p b = true → a = b ∨ R a b
  | [], _, _, _, h, _, _ => by simp at h
  | x :: r, hs, a, b, h, hb, hp => by
    obtain ⟨h1, h2⟩ := List.pairwise_cons.1 hs
    rw [List.find?_cons] at h
    cases hx : p x with
    | true =>
      rw [hx] at h
      simp at h
      subst h
      rcases List.mem_cons.1 hb with rfl | hb
      · exact .inl rfl
      · exact .inr (h1 b hb)
    | false =>
      rw [hx] at h
      rcases List.mem_cons.1 hb with rfl | hb
      · rw [hx] at hp; cases hp
      · exact find_first h2 h hb hp
theorem place_fit {W H : Int} {bl : List Rc} {w h : Int} {p : Int × Int} (hp : place W H bl w h = some p) : fit W H bl w h p.1 p.2 := by
  have h1 := List.find?_some hp
  have h2 := places_mem.1 (List.mem_of_find?_eq_some hp)
  have h3 := cols_mem.1 h2.1
  have h4 := rows_mem.1 h2.2
  exact ⟨h3.2.1, h3.2.2, h4.2.1, h4.2.2, h1⟩
/-- no place is lower, or farther to the left in the same row -/
theorem place_best {W H : Int} {bl : List Rc} {w h x y : Int} (hf : fit W H bl w h x y) : ∃ p, place W H bl w h = some p ∧ (y < p.2 ∨ y = p.2 ∧ p.1 ≤ x) := by
  obtain ⟨x', y', g1, g2, g3, g4⟩ := better _ _ x y hf rfl rfl
  have hm : (x', y') ∈ places W H bl w h := places_mem.2 ⟨cols_mem.2 ⟨g3, g1.1, g1.2.1⟩, rows_mem.2 ⟨g2, g1.2.2.1, g1.2.2.2.1⟩⟩
  cases hp : place W H bl w h with
  | none =>
    have := List.find?_eq_none.1 hp (x', y') hm
    exact absurd g1.2.2.2.2 this
  | some p =>
    refine ⟨p, rfl, ?_⟩
    rcases find_first (places_sorted W H bl w h) hp hm g1.2.2.2.2 with rfl | h1
    · exact g4
    · unfold before at h1
      dsimp only at h1
      omega
theorem place_none {W H : Int} {bl : List Rc} {w h : Int} (hp : place W H bl w h = none) (x y : Int) : ¬ fit W H bl w h x y := fun hf => by
  obtain ⟨p, h1, _⟩ := place_best hf
  rw [hp] at h1; cases h1
end Go.Mine.R

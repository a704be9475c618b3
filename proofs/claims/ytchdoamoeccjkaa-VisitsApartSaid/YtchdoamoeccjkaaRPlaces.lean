/-
  The critical places as they are yielded: by sorted lists of all rows and all columns.
-/
import Derived.Test.YtchdoamoeccjkaaRPure
namespace Go.Mine.R
theorem sorted_eq : ∀ {a b : List Int}, a.Pairwise (· < ·) → b.Pairwise (· < ·) → (∀ x, x ∈ a ↔ x ∈ b) → a = b
  | [], [], _, _, _ => rfl
  | [], y :: s, _, _, h => by have := (h y).2 (by simp); cases this
  | x :: r, [], _, _, h => by have := (h x).1 (by simp); cases this
  | x :: r, y :: s, ha, hb, h => by
    obtain ⟨a1, a2⟩ := List.pairwise_cons.1 ha
    obtain ⟨b1, b2⟩ := List.pairwise_cons.1 hb
    have e : x = y := by
      have h1 := (h x).1 (by simp)
      have h2 := (h y).2 (by simp)
      rcases List.mem_cons.1 h1 with h1 | h1
      · exact h1
      · rcases List.mem_cons.1 h2 with h2 | h2
        · exact h2.symm
        · have := b1 x h1; have := a1 y h2; omega
    subst e
    congr 1
    refine sorted_eq a2 b2 fun z => ?_
    constructor
    · intro hz
      rcases List.mem_cons.1 ((h z).1 (by simp [hz])) with rfl | h'
      · have := a1 z hz; omega
      · exact h'
    · intro hz
      rcases List.mem_cons.1 ((h z).2 (by simp [hz])) with rfl | h'
      · have := b1 z hz; omega
      · exact h'
/-- the places of a row -/
def rowPl (W H : Int) (bl : List Rc) (w h y : Int) : List (Int × Int) := if 0 ≤ y ∧ y ≤ H - h then (colsL W w bl).map (fun x => (x, y)) else []
theorem flat_if {α β : Type} (p : α → Prop) [DecidablePred p] (f : α → List β) : ∀ (l : List α), (l.flatMap fun y => if p y then f y else []) = (l.filter fun y => decide (p y)).flatMap f
  | [] => rfl
  | x :: l => by
    rw [List.flatMap_cons, flat_if p f l, List.filter_cons]
    by_cases h : p x
    · simp [h]
    · simp [h]
theorem rows_flat {W H : Int} {bl : List Rc} {w h : Int} {L : List Int} (hL : L.Pairwise (· < ·)) (hm : ∀ k, k ∈ L ↔ rowB H bl h k) : L.reverse.flatMap (rowPl W H bl w h) = places W H bl w h := by
  have e : L.filter (fun y => decide (0 ≤ y ∧ y ≤ H - h)) = rowsL H h bl := by
    refine sorted_eq (hL.filter _) (rows_sorted H h bl) fun x => ?_
    rw [List.mem_filter, hm, rows_mem]
    simp
  unfold places rowPl
  rw [flat_if, List.filter_reverse, e]
theorem cols_all {W : Int} {bl : List Rc} {w : Int} {L : List Int} (hL : L.Pairwise (· < ·)) (hm : ∀ k, k ∈ L ↔ colB bl k) (hp : ∀ r ∈ bl, 0 ≤ r.x ∧ 0 ≤ r.w) : L.filter (fun x => decide (x ≤ W - w)) = colsL W w bl := by
  refine sorted_eq (hL.filter _) (cols_sorted W w bl) fun x => ?_
  rw [List.mem_filter, hm, cols_mem]
  simp only [decide_eq_true_eq]
  constructor
  · rintro ⟨h1, h2⟩
    refine ⟨h1, ?_, h2⟩
    rcases h1 with rfl | ⟨r, hr, rfl⟩
    · omega
    · have := hp r hr; omega
  · rintro ⟨h1, _, h2⟩; exact ⟨h1, h2⟩
/-- what is left of a row when the first k columns of all have been passed -/
def rowFrom (W H : Int) (w h y : Int) (C : List Int) : List (Int × Int) := if 0 ≤ y ∧ y ≤ H - h then (C.filter fun x => decide (x ≤ W - w)).map (fun x => (x, y)) else []
theorem rowFrom_all {W H : Int} {bl : List Rc} {w h y : Int} {L : List Int} (hL : L.Pairwise (· < ·)) (hm : ∀ k, k ∈ L ↔ colB bl k) (hp : ∀ r ∈ bl, 0 ≤ r.x ∧ 0 ≤ r.w) : rowPl W H bl w h y = rowFrom W H w h y L := by
  unfold rowPl rowFrom; rw [cols_all hL hm hp]
theorem rowFrom_nil (W H w h y : Int) : rowFrom W H w h y [] = [] := by unfold rowFrom; split <;> rfl
theorem rowFrom_yes {W H w h y x : Int} {C : List Int} (h1 : 0 ≤ y) (h2 : y ≤ H - h) (h3 : x ≤ W - w) : rowFrom W H w h y (x :: C) = (x, y) :: rowFrom W H w h y C := by
  unfold rowFrom; rw [if_pos ⟨h1, h2⟩, List.filter_cons, if_pos (by simpa using h3), List.map_cons, if_pos ⟨h1, h2⟩]
theorem rowFrom_no {W H w h y x : Int} {C : List Int} (h0 : ¬ (0 ≤ y ∧ y ≤ H - h ∧ x ≤ W - w)) : rowFrom W H w h y (x :: C) = rowFrom W H w h y C := by
  unfold rowFrom
  by_cases h1 : 0 ≤ y ∧ y ≤ H - h
  · rw [if_pos h1, if_pos h1, List.filter_cons, if_neg (by simp only [decide_eq_true_eq]; intro h3; exact h0 ⟨h1.1, h1.2, h3⟩)]
  · rw [if_neg h1, if_neg h1]
theorem split_len (n : Int) : ∀ l : List Int, (l.filter (fun x => decide (x < n))).length + (l.filter (fun x => !decide (x < n))).length = l.length
  | [] => rfl
  | x :: l => by
    have ih := split_len n l
    simp only [List.filter_cons]
    by_cases h : x < n
    · simp [h]; omega
    · simp [h]; omega
theorem put_length (l : List Int) (n : Int) : (put l n).length ≤ l.length + 1 := by
  unfold put
  split
  · omega
  · have := split_len n l
    simp only [List.length_append, List.length_cons]; omega
theorem putIn_length (m : Int) (l : List Int) (n : Int) : (putIn m l n).length ≤ l.length + 1 := by
  unfold putIn
  split
  · omega
  · exact put_length l n
theorem fold_length {most : Int} (g : Rc → Int) : ∀ (bl : List Rc) (l : List Int), (bl.foldl (fun l r => putIn most l (g r)) l).length ≤ l.length + bl.length
  | [], _ => by simp
  | r :: bl, l => by
    have h1 := fold_length (most := most) g bl (putIn most l (g r))
    have h2 := putIn_length most l (g r)
    simp only [List.foldl_cons, List.length_cons]; omega
theorem rowsL_length (H h : Int) (bl : List Rc) : (rowsL H h bl).length ≤ bl.length + 1 := by
  have h1 := fold_length (most := H - h) (fun r => r.y - h) bl (putIn (H - h) [] (H - h))
  have h2 := putIn_length (H - h) [] (H - h)
  unfold rowsL; simp only [List.length_nil] at h2; omega
theorem colsL_length (W w : Int) (bl : List Rc) : (colsL W w bl).length ≤ bl.length + 1 := by
  have h1 := fold_length (most := W - w) (fun r => r.x + r.w) bl (putIn (W - w) [] 0)
  have h2 := putIn_length (W - w) [] 0
  unfold colsL; simp only [List.length_nil] at h2; omega
theorem flat_len {α β : Type} (f : α → List β) (n : Nat) (hf : ∀ x, (f x).length = n) : ∀ l : List α, (l.flatMap f).length = l.length * n
  | [] => by simp
  | x :: l => by rw [List.flatMap_cons, List.length_append, hf, flat_len f n hf l, List.length_cons, Nat.succ_mul]; omega
theorem places_length (W H : Int) (bl : List Rc) (w h : Int) : (places W H bl w h).length = (rowsL H h bl).length * (colsL W w bl).length := by
  unfold places
  rw [flat_len _ (colsL W w bl).length (fun x => by simp)]
  simp
theorem places_few {W H : Int} {bl : List Rc} {w h : Int} (hl : bl.length ≤ 40) : (places W H bl w h).length ≤ 1681 := by
  rw [places_length]
  have h1 := rowsL_length H h bl
  have h2 := colsL_length W w bl
  exact Nat.le_trans (Nat.mul_le_mul (show _ ≤ 41 by omega) (show _ ≤ 41 by omega)) (by decide)
/-- the place of a number in a sorted list -/
theorem put_at {l : List Int} (hs : l.Pairwise (· < ·)) {n : Int} {k : Nat} (h1 : ∀ x ∈ l.take k, x < n) (h2 : ∀ x, l[k]? = some x → n ≤ x) :
    put l n = if l[k]? = some n then l else l.take k ++ n :: l.drop k := by
  have hd : ∀ x ∈ l.drop k, n ≤ x := by
    intro x hx
    rcases Nat.lt_or_ge k l.length with hk | hk
    · rw [List.drop_eq_getElem_cons hk] at hx
      have h3 := h2 _ (List.getElem?_eq_getElem hk)
      rcases List.mem_cons.1 hx with rfl | hx
      · exact h3
      · have hp := hs.sublist (List.drop_sublist k l)
        rw [List.drop_eq_getElem_cons hk] at hp
        have := (List.pairwise_cons.1 hp).1 x hx
        omega
    · rw [List.drop_of_length_le hk] at hx; cases hx
  have f1 : l.filter (fun x => decide (x < n)) = l.take k := by
    conv => lhs; rw [← List.take_append_drop k l]
    rw [List.filter_append, List.filter_eq_self.2 (fun x hx => by simpa using h1 x hx), List.filter_eq_nil_iff.2 (fun x hx => by have := hd x hx; simp; omega), List.append_nil]
  have f2 : l.filter (fun x => !decide (x < n)) = l.drop k := by
    conv => lhs; rw [← List.take_append_drop k l]
    rw [List.filter_append, List.filter_eq_nil_iff.2 (fun x hx => by have := h1 x hx; simp; omega), List.filter_eq_self.2 (fun x hx => by have := hd x hx; simp; omega), List.nil_append]
  unfold put
  by_cases hn : l[k]? = some n
  · rw [if_pos hn, if_pos (List.mem_of_getElem? hn)]
  · rw [if_neg hn, if_neg, f1, f2]
    intro hm
    rw [← List.take_append_drop k l] at hm
    rcases List.mem_append.1 hm with hm | hm
    · have := h1 n hm; omega
    · rcases Nat.lt_or_ge k l.length with hk | hk
      · rw [List.drop_eq_getElem_cons hk] at hm
        have h3 := h2 _ (List.getElem?_eq_getElem hk)
        rcases List.mem_cons.1 hm with e | hm
        · exact hn (by rw [List.getElem?_eq_getElem hk, ← e])
        · have hp := hs.sublist (List.drop_sublist k l)
          rw [List.drop_eq_getElem_cons hk] at hp
          have := (List.pairwise_cons.1 hp).1 n hm
          omega
      · rw [List.drop_of_length_le hk] at hm; cases hm
end Go.Mine.R

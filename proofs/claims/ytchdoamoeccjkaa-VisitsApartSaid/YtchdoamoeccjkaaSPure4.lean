/-
  Layer 13 (spans), plainly: where lists begin and end next; one step of the states.
-/
import Derived.Test.YtchdoamoeccjkaaSPure3
namespace Go.Mine.S

def bdL (l : List Sp) (i : Nat) : Int := ((ends l)[i]?).getD 1099511627777
theorem ends_get : ∀ (l : List Sp) (k : Nat) (x : Sp), l[k]? = some x → (ends l)[2 * k]? = some x.1 ∧ (ends l)[2 * k + 1]? = some x.2
  | [], k, x, h => by simp at h
  | y :: r, 0, x, h => by simp at h; subst h; exact ⟨rfl, rfl⟩
  | y :: r, k + 1, x, h => by
    obtain ⟨h1, h2⟩ := ends_get r k x (by simpa using h)
    have e : ends (y :: r) = y.1 :: y.2 :: ends r := rfl
    rw [e]
    have e1 : 2 * (k + 1) = 2 * k + 1 + 1 := by omega
    rw [e1]
    exact ⟨by simpa using h1, by simpa using h2⟩
theorem bdL_end (l : List Sp) (i : Nat) (h : 2 * l.length ≤ i) : bdL l i = 1099511627777 := by
  unfold bdL
  rw [List.getElem?_eq_none (by rw [ends_length]; exact h)]; rfl
theorem bdL_even {l : List Sp} {k : Nat} {x : Sp} (h : l[k]? = some x) : bdL l (2 * k) = x.1 := by unfold bdL; rw [(ends_get l k x h).1]; rfl
theorem bdL_odd {l : List Sp} {k : Nat} {x : Sp} (h : l[k]? = some x) : bdL l (2 * k + 1) = x.2 := by unfold bdL; rw [(ends_get l k x h).2]; rfl

def pb (i : Nat) : Bool := decide (i % 2 = 1)
theorem pb_succ (i : Nat) : pb (i + 1) = !pb i := by
  unfold pb
  rcases Nat.mod_two_eq_zero_or_one i with h | h
  · have : (i + 1) % 2 = 1 := by omega
    simp [h, this]
  · have : (i + 1) % 2 = 0 := by omega
    simp [h, this]
theorem pb_int (i : Nat) : (((i : Int) % 2) == 1) = pb i := by
  unfold pb
  rw [Bool.eq_iff_iff]; simp; omega
theorem bdL_drop (l : List Sp) (i : Nat) : (ends l).drop i = [] ∧ bdL l i = 1099511627777 ∨ (ends l).drop i = bdL l i :: (ends l).drop (i + 1) := by
  rcases Nat.lt_or_ge i (ends l).length with h | h
  · right
    rw [List.drop_eq_getElem_cons h]
    congr 1
    unfold bdL
    rw [List.getElem?_eq_getElem h]; rfl
  · left
    exact ⟨List.drop_of_length_le h, by unfold bdL; rw [List.getElem?_eq_none h]; rfl⟩
theorem bdL_le {l : List Sp} (hg : good (-1) l) {i : Nat} (h : i < (ends l).length) : 0 ≤ bdL l i ∧ bdL l i ≤ 1099511627776 := by
  have e : bdL l i = (ends l)[i] := by unfold bdL; rw [List.getElem?_eq_getElem h]; rfl
  have := ends_low l _ hg (ends l)[i] (List.getElem_mem h)
  rw [e]; omega
theorem bdL_range {l : List Sp} (hg : good (-1) l) (i : Nat) : 0 ≤ bdL l i ∧ bdL l i ≤ 1099511627777 := by
  rcases Nat.lt_or_ge i (ends l).length with h | h
  · have := bdL_le hg h; omega
  · have : bdL l i = 1099511627777 := by unfold bdL; rw [List.getElem?_eq_none h]; rfl
    omega
/-- one step of the states -/
theorem st_step (a b : List Sp) (ha : good (-1) a) (hb : good (-1) b) (i k : Nat) (h : i < (ends a).length ∨ k < (ends b).length) :
    (bdL a i < bdL b k ∧ i < (ends a).length ∧ st (pb i) (pb k) ((ends a).drop i) ((ends b).drop k) = (bdL a i, pb (i + 1), pb k) :: st (pb (i + 1)) (pb k) ((ends a).drop (i + 1)) ((ends b).drop k)) ∨
    (bdL b k < bdL a i ∧ k < (ends b).length ∧ st (pb i) (pb k) ((ends a).drop i) ((ends b).drop k) = (bdL b k, pb i, pb (k + 1)) :: st (pb i) (pb (k + 1)) ((ends a).drop i) ((ends b).drop (k + 1))) ∨
    (bdL a i = bdL b k ∧ i < (ends a).length ∧ k < (ends b).length ∧ st (pb i) (pb k) ((ends a).drop i) ((ends b).drop k) = (bdL a i, pb (i + 1), pb (k + 1)) :: st (pb (i + 1)) (pb (k + 1)) ((ends a).drop (i + 1)) ((ends b).drop (k + 1))) := by
  rcases Nat.lt_or_ge i (ends a).length with h1 | h1
  · have l1 := bdL_le ha h1
    have e1 : (ends a).drop i = bdL a i :: (ends a).drop (i + 1) := by
      rcases bdL_drop a i with ⟨e, _⟩ | e
      · have := congrArg List.length e; simp at this; omega
      · exact e
    rcases Nat.lt_or_ge k (ends b).length with h2 | h2
    · have l2 := bdL_le hb h2
      have e2 : (ends b).drop k = bdL b k :: (ends b).drop (k + 1) := by
        rcases bdL_drop b k with ⟨e, _⟩ | e
        · have := congrArg List.length e; simp at this; omega
        · exact e
      rw [e1, e2, st, pb_succ, pb_succ]
      rcases Int.lt_trichotomy (bdL a i) (bdL b k) with c | c | c
      · exact .inl ⟨c, h1, by rw [if_pos c]⟩
      · exact .inr (.inr ⟨c, h1, h2, by rw [if_neg (by omega), if_neg (by omega)]⟩)
      · exact .inr (.inl ⟨c, h2, by rw [if_neg (by omega), if_pos c]⟩)
    · have e2 : (ends b).drop k = [] := List.drop_of_length_le h2
      have b2 : bdL b k = 1099511627777 := by unfold bdL; rw [List.getElem?_eq_none h2]; rfl
      refine .inl ⟨by omega, h1, ?_⟩
      rw [e1, e2, st, pb_succ]
  · have h2 : k < (ends b).length := by omega
    have l2 := bdL_le hb h2
    have e1 : (ends a).drop i = [] := List.drop_of_length_le h1
    have b1 : bdL a i = 1099511627777 := by unfold bdL; rw [List.getElem?_eq_none h1]; rfl
    have e2 : (ends b).drop k = bdL b k :: (ends b).drop (k + 1) := by
      rcases bdL_drop b k with ⟨e, _⟩ | e
      · have := congrArg List.length e; simp at this; omega
      · exact e
    refine .inr (.inl ⟨by omega, h2, ?_⟩)
    rw [e1, e2, st, pb_succ]
theorem st_done (a b : List Sp) (i k : Nat) (p q : Bool) (h1 : (ends a).length ≤ i) (h2 : (ends b).length ≤ k) : st p q ((ends a).drop i) ((ends b).drop k) = [] := by
  rw [List.drop_of_length_le h1, List.drop_of_length_le h2, st]
end Go.Mine.S

/-
  deadlines: a further trade, plainly.
-/
import Derived.Test.YtklndmnhhakmiaaDLaw2
namespace Go.Proofs.Ytklndmnhhakmiaa
open Go.RowKit Go.Mine Go.Mine.B
/-- a budget that bars a trade -/
def badM (x : Tr) (y : Bu) : Bool := (decide (y.lang = x.fr) && decide (qg y.q x.stg < x.ms)) || (decide (y.lang = x.to) && decide (1073741824 < qg y.q x.stg + x.ms))
def byV (L : List Bu) (x : Tr) : Int := if L.any (badM x) = true then 0 else x.ms
theorem badM_iff {b : List Bu} {l : List Tr} {x : Tr} (h : chkB b (l ++ [x]) = true) (u k : Int) :
    (standing b l u k).any (badM x) = true ↔ qg (stq b l x.fr u k) x.stg < x.ms ∨ most < qg (stq b l x.to u k) x.stg + x.ms := by
  obtain ⟨_, _, r, _⟩ := chkB_parts h
  obtain ⟨hf, ht, _⟩ := rightT_parts (r x (by simp))
  unfold standing viewB
  rw [List.any_map, List.any_eq_true]
  constructor
  · rintro ⟨y, hy, hb⟩
    simp only [Function.comp_apply, badM, Bool.or_eq_true, Bool.and_eq_true, decide_eq_true_eq] at hb
    rcases hb with ⟨h1, h2⟩ | ⟨h1, h2⟩
    · left; unfold stq; rw [h1] at h2; exact h2
    · right; unfold stq most; rw [h1] at h2; exact h2
  · intro hb
    rcases hb with hb | hb
    · obtain ⟨y, hy, he⟩ := List.any_eq_true.1 hf
      have he := of_decide_eq_true he
      refine ⟨y, hy, ?_⟩
      simp only [Function.comp_apply, badM, Bool.or_eq_true, Bool.and_eq_true, decide_eq_true_eq]
      left; unfold stq at hb; rw [he]; exact ⟨rfl, hb⟩
    · obtain ⟨y, hy, he⟩ := List.any_eq_true.1 ht
      have he := of_decide_eq_true he
      refine ⟨y, hy, ?_⟩
      simp only [Function.comp_apply, badM, Bool.or_eq_true, Bool.and_eq_true, decide_eq_true_eq]
      right; unfold stq most at hb; rw [he]; exact ⟨rfl, hb⟩
/-- how much later, or earlier -/
theorem more_path {b : List Bu} {l : List Tr} {x : Tr} {u k : Int} (h : chkB b (l ++ [x]) = true) (h1 : x.at_ ≤ u) (h2 : x.known ≤ k) (hl : ∀ y ∈ l, y.at_ ≤ x.at_) (n : Int) {s : Nat} (hs : s < 4) :
    path (stq b (l ++ [x]) n u k) (s : Int) = path (stq b l n u k) (s : Int) + (if x.stg ≤ (s : Int) ∧ n = x.fr then -byV (standing b l u k) x else if x.stg ≤ (s : Int) ∧ n = x.to then byV (standing b l u k) x else 0) := by
  rw [due_more h h1 h2 hl n (s := (s : Int)) ⟨by omega, by omega⟩]
  have hb := badM_iff h u k
  unfold byV
  generalize (standing b l u k).any (badM x) = r at *
  by_cases hc : qg (stq b l x.fr u k) x.stg < x.ms ∨ most < qg (stq b l x.to u k) x.stg + x.ms
  · have hr : r = true := hb.2 hc
    rw [hr, if_pos rfl, if_pos (by rcases hc with hc | hc <;> simp [hc])]
    split
    · omega
    · split <;> omega
  · have hr : r = false := by cases r with
      | false => rfl
      | true => exact absurd (hb.1 rfl) hc
    rw [hr]
    simp only [not_or] at hc
    by_cases hs2 : (s : Int) < x.stg
    · rw [if_pos (.inr (.inr hs2)), if_neg (by omega), if_neg (by omega)]; omega
    · rw [if_neg (by simp only [not_or]; exact ⟨hc.1, hc.2, hs2⟩)]
      by_cases h3 : n = x.fr
      · rw [if_pos h3, if_pos ⟨by omega, h3⟩]; simp; omega
      · have h5 : ¬ (x.stg ≤ (s : Int) ∧ n = x.fr) := fun h => h3 h.2
        rw [if_neg h3, if_neg h5]
        by_cases h4 : n = x.to
        · rw [if_pos h4, if_pos ⟨by omega, h4⟩]; simp
        · have h6 : ¬ (x.stg ≤ (s : Int) ∧ n = x.to) := fun h => h4 h.2
          rw [if_neg h4, if_neg h6]; omega
theorem byV_in {L : List Bu} {x : Tr} (h : 1 ≤ x.ms ∧ x.ms ≤ most) : 0 ≤ byV L x ∧ byV L x ≤ 1073741824 := by
  unfold most at h; unfold byV; split <;> omega
/-- the budgets seen so far -/
theorem byV_next {L : List Bu} {x : Tr} {j : Nat} {y : Bu} (h : L[j]? = some y) : byV (L.take (j + 1)) x = if badM x y = true then 0 else byV (L.take j) x := by
  unfold byV
  rw [take_of_get h, List.any_append]
  simp only [List.any_cons, List.any_nil, Bool.or_false]
  cases (L.take j).any (badM x) <;> cases badM x y <;> simp
theorem more_parts {b : List Bu} {l : List Tr} {x : Tr} (h : chkB b (l ++ [x]) = true) : stage x.stg ∧ 1 ≤ x.ms ∧ x.ms ≤ most ∧ x.fr ≠ x.to ∧ chkB b l = true := by
  obtain ⟨_, _, r, _⟩ := chkB_parts h
  obtain ⟨_, _, hne, hx, h1, h2⟩ := rightT_parts (r x (by simp))
  exact ⟨hx, h1, h2, hne, chkB_sub h (List.sublist_append_left l [x])⟩
end Go.Proofs.Ytklndmnhhakmiaa

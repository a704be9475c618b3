/-
  QueueWorked: the work of the slices of an accepted plan, by number.
-/
import Derived.Test.YtbkokljelopcnaaQueueEitherLaw
import Derived.Test.YtbkokljelopcnaaMapDel
namespace Go.Proofs.Ytbkokljelopcnaa
open Go.RowKit Go.Mine Go.Mine.Q
theorem acc_at {l : List Jb} : ∀ {s : List Sx} {last : Int} {i : Nat} {x : Sx}, accGo l last s = true → s[i]? = some x →
    (∃ y, jobOf l x.no = some y ∧ y.ready ≤ x.f ∧ x.f < x.u ∧ x.u ≤ y.due) ∧ ∀ j z, i = j + 1 → s[j]? = some z → z.u ≤ x.f
  | [], _, _, _, _, h => by simp at h
  | y :: s, last, 0, x, h, hx => by
    simp at hx; subst hx
    obtain ⟨⟨j, h1, h2, h3, h4, h5⟩, _⟩ := accGo_cons.1 h
    exact ⟨⟨j, h1, h3, h4, h5⟩, fun j z e => by omega⟩
  | y :: s, last, i + 1, x, h, hx => by
    obtain ⟨_, h6⟩ := accGo_cons.1 h
    simp at hx
    obtain ⟨g1, g2⟩ := acc_at h6 hx
    refine ⟨g1, fun j z e hz => ?_⟩
    obtain rfl : j = i := by omega
    cases j with
    | zero =>
      simp at hz; subst hz
      cases s with
      | nil => simp at hx
      | cons z s =>
        simp at hx; subst hx
        obtain ⟨⟨_, _, k2, _⟩, _⟩ := accGo_cons.1 h6
        exact k2
    | succ j => simp at hz; exact g2 j z rfl hz
def workM (p : List Sx) (i : Nat) : Int → Option Value := fun n => if (p.take i).any (fun x => decide (x.no = n)) = true then some (.int .i64 (doneN n (p.take i))) else none
theorem workM_zero (p : List Sx) : workM p 0 = fun _ => none := by funext n; simp [workM]
theorem workM_get (p : List Sx) (i : Nat) (n : Int) : (workM p i n).getD (.int .i64 0) = .int .i64 (doneN n (p.take i)) := by
  unfold workM
  by_cases h : (p.take i).any (fun x => decide (x.no = n)) = true
  · rw [if_pos h]; rfl
  · rw [if_neg h]
    have : doneN n (p.take i) = 0 := by
      unfold doneN
      rw [sumF_congr (g := fun _ => 0)]
      · have : ∀ m : List Sx, sumF (fun _ => (0 : Int)) m = 0 := fun m => by induction m with
          | nil => rfl
          | cons x m ih => simp only [sumF, ih]; omega
        exact this _
      · intro x hx
        rw [if_neg]
        intro e
        exact h (List.any_eq_true.2 ⟨x, hx, decide_eq_true e⟩)
    rw [this]; rfl
theorem workM_next {p : List Sx} {i : Nat} {x : Sx} (h : p[i]? = some x) : Go.Mine.upd (workM p i) x.no (.int .i64 (doneN x.no (p.take i) + (x.u - x.f))) = workM p (i + 1) := by
  funext n
  have hd := done_take h n
  have ha : (p.take (i + 1)).any (fun z => decide (z.no = n)) = ((p.take i).any (fun z => decide (z.no = n)) || decide (x.no = n)) := by
    rw [take_of_get h, List.any_append]; simp
  unfold Go.Mine.upd workM
  rw [ha, hd]
  by_cases e : n = x.no
  · subst e; simp
  · have e2 : ¬ x.no = n := fun h => e h.symm
    rw [if_neg e, decide_eq_false e2, Bool.or_false, if_neg e2, Int.add_zero]
theorem done_bound {p : List Sx} (h : ∀ x ∈ p, 0 ≤ x.u - x.f ∧ x.u - x.f ≤ 1099511627776) (n : Int) (i : Nat) (hi : i ≤ p.length) : 0 ≤ doneN n (p.take i) ∧ doneN n (p.take i) ≤ (i : Int) * 1099511627776 := by
  constructor
  · exact sumF_nonneg fun x hx => by have := h x (List.mem_of_mem_take hx); split <;> omega
  · have h1 := sumF_bound (f := fun x : Sx => if x.no = n then x.u - x.f else 0) (c := 1099511627776) (l := p.take i) (fun x hx => by have := h x (List.mem_of_mem_take hx); split <;> omega)
    have h2 : (p.take i).length = i := by simp; omega
    rw [h2] at h1
    exact h1
def dmM (l : List Jb) (k : Nat) (m : Int → Option Value) : Int → Option Value := fun n => if (l.take k).any (fun x => decide (x.no = n)) = true then none else m n
theorem dmM_zero (l : List Jb) (m : Int → Option Value) : dmM l 0 m = m := by funext n; simp [dmM]
theorem dmM_next {l : List Jb} {k : Nat} {y : Jb} (h : l[k]? = some y) (m : Int → Option Value) : del (dmM l k m) y.no = dmM l (k + 1) m := by
  funext n
  have ha : (l.take (k + 1)).any (fun z => decide (z.no = n)) = ((l.take k).any (fun z => decide (z.no = n)) || decide (y.no = n)) := by
    rw [take_of_get h, List.any_append]; simp
  unfold del dmM
  rw [ha]
  by_cases e : n = y.no
  · subst e; simp
  · have e2 : ¬ y.no = n := fun h => e h.symm
    rw [if_neg e, decide_eq_false e2, Bool.or_false]
theorem dmM_at {l : List Jb} (hp : l.Pairwise fun x y => x.no < y.no) {k : Nat} {y : Jb} (h : l[k]? = some y) (m : Int → Option Value) : dmM l k m y.no = m y.no := by
  unfold dmM
  rw [if_neg]
  rw [List.any_eq_true]
  rintro ⟨z, hz, e⟩
  have := take_lt hp h z hz
  have := of_decide_eq_true e
  omega
theorem dmM_all {l : List Jb} {m : Int → Option Value} (h : ∀ n, m n ≠ none → ∃ y ∈ l, y.no = n) : ∀ n, dmM l l.length m n = none := by
  intro n
  unfold dmM
  rw [List.take_length]
  by_cases hc : l.any (fun x => decide (x.no = n)) = true
  · rw [if_pos hc]
  · rw [if_neg hc]
    cases hm : m n with
    | none => rfl
    | some v =>
      obtain ⟨y, hy, e⟩ := h n (by rw [hm]; simp)
      exact absurd (List.any_eq_true.2 ⟨y, hy, decide_eq_true e⟩) hc
theorem workM_job {l : List Jb} {p : List Sx} (h : accGo l 0 p = true) : ∀ n, workM p p.length n ≠ none → ∃ y ∈ l, y.no = n := by
  intro n hn
  unfold workM at hn
  rw [List.take_length] at hn
  by_cases hc : p.any (fun x => decide (x.no = n)) = true
  · obtain ⟨x, hx, e⟩ := List.any_eq_true.1 hc
    obtain ⟨y, hy, e2⟩ := accGo_nos h x hx
    exact ⟨y, hy, by rw [e2]; exact of_decide_eq_true e⟩
  · rw [if_neg hc] at hn; exact absurd rfl hn
theorem acc_work {l : List Jb} {p : List Sx} (h : acc l p = true) : ∀ y ∈ l, doneN y.no p = y.need := by
  unfold acc at h
  rw [Bool.and_eq_true, List.all_eq_true] at h
  exact fun y hy => of_decide_eq_true (h.2 y hy)
end Go.Proofs.Ytbkokljelopcnaa

/-
  What TopTrades asks, plainly: the budgets and the dues after the trades; the numbers of trades; jobs in their portions.
-/
import Derived.Test.YtnngemgfochodaaGreatTM1
import Derived.Test.YtnngemgfochodaaGreatTM7
namespace Go.Mine.X
open Go.Mine.B
theorem after_chk {b : List Bu} {l ts : List Tr} {P : Pu} {s no at_ known : Int} {T : List Int} (hst : stage s) (hc : chk 400 b l = 0) (hb : b.length ≤ 6) (hl : l.length ≤ 20) (h : Done b P s no at_ known T ts) (hts : ts.length ≤ 36)
    (hat : 0 ≤ at_ ∧ at_ < 1099511627776) (hk : 0 ≤ known ∧ known < 1099511627776) (hno : 0 ≤ no ∧ ∀ x ∈ l, x.no < no) : chk 400 b (l ++ ts) = 0 ∨ (chk 400 b (l ++ ts) ≠ 0 ∧ 1048576 < no + 36) := by
  by_cases e : chk 400 b (l ++ ts) = 0
  · exact .inl e
  · refine .inr ⟨e, Int.not_le.1 fun hle => e ?_⟩
    have hc' := (chk_zero (by decide)).1 hc
    exact (chk_zero (by decide)).2 ⟨done_chk hst hc'.1 h hat hk hno (by omega), by omega, by rw [List.length_append]; omega⟩
theorem nos_lt {l : List Tr} (h : l.Pairwise fun x y => x.no < y.no) {x : Tr} (hx : l[l.length - 1]? = some x) : ∀ y ∈ l, y.no < x.no + 1 := by
  intro y hy
  obtain ⟨j, hj⟩ := List.getElem?_of_mem hy
  obtain ⟨h1, h2⟩ := List.getElem?_eq_some_iff.1 hj
  obtain ⟨h3, h4⟩ := List.getElem?_eq_some_iff.1 hx
  by_cases e : j = l.length - 1
  · subst e
    rw [h2] at h4
    rw [h4]; omega
  · have := List.pairwise_iff_getElem.1 h j (l.length - 1) h1 h3 (by omega)
    rw [h2, h4] at this
    omega
theorem stand_at {b : List Bu} (l : List Tr) (at_ known : Int) {i : Nat} {y : Bu} (hy : b[i]? = some y) : (standing b l at_ known)[i]? = some ⟨y.lang, stq b l y.lang at_ known⟩ := by
  unfold standing viewB
  rw [List.getElem?_map, hy]
  rfl
theorem due_moved (q : Q) {s k : Int} (t u : Int) (hs : stage s) (hk : stage k) : qg (tq (qs q s t) u) k = qg (tq q u) k + (if s ≤ k then t - qg q s else 0) := by
  rw [qg_tq _ _ hk, qg_tq _ _ hk, path_set q t hs hk]
  split <;> omega
end Go.Mine.X
namespace Go.Mine.Q
def inQ (a : Int) (m : List Jb) (i : Nat) : Bool := (m.take i).all fun x => decide (dueN m x.due ≤ x.due - a)
theorem inQ_all (a : Int) (m : List Jb) : inQ a m m.length = inFrom a m := by unfold inQ; rw [List.take_length]; rfl
end Go.Mine.Q

/-
  budgets: what BudgetsPath says, plainly.
-/
import Derived.Test.YtklndmnhhakmiaaBM6
namespace Go.Proofs.Ytklndmnhhakmiaa
open Go.RowKit Go.Mine Go.Mine.B
/-- the path that there is after one trade -/
def pathT (x : Tr) (mv : Bool) (i k j s : Nat) (v : Int) : Int :=
  let v1 := if (mv && decide (x.stg ≤ (s : Int)) && ((j : Int) == (i : Int))) = true then v - x.ms else v
  if (mv && decide (x.stg ≤ (s : Int)) && ((j : Int) == (k : Int))) = true then v1 + x.ms else v1
theorem lang_at {b : List Bu} (h : b.Pairwise fun x y => x.lang < y.lang) {i j : Nat} {y z : Bu} (hi : b[i]? = some y) (hj : b[j]? = some z) : y.lang = z.lang ↔ i = j := by
  obtain ⟨hil, rfl⟩ := List.getElem?_eq_some_iff.1 hi
  obtain ⟨hjl, rfl⟩ := List.getElem?_eq_some_iff.1 hj
  constructor
  · intro e
    rcases Nat.lt_trichotomy i j with h1 | h1 | h1
    · have := List.pairwise_iff_getElem.1 h i j hil hjl h1; omega
    · exact h1
    · have := List.pairwise_iff_getElem.1 h j i hjl hil h1; omega
  · rintro rfl; rfl
theorem path_at {b : List Bu} {x : Tr} (h : chkB b [x] = true) {i k j s : Nat} {yf yt y : Bu} (hi : b[i]? = some yf) (hf : yf.lang = x.fr) (hk : b[k]? = some yt) (ht : yt.lang = x.to) (hj : b[j]? = some y) (hs : s < 4) :
    path ((perf (ofB b) x y.lang).getD q0) (s : Int) = pathT x (decide (x.ms ≤ qg yf.q x.stg) && decide (qg yt.q x.stg + x.ms ≤ most)) i k j s (path y.q (s : Int)) := by
  obtain ⟨h1, h2, h3, h4⟩ := chkB_parts h
  obtain ⟨r1, r2, hne, rs, rm1, rm2⟩ := rightT_parts (h3 x (by simp))
  have e := perf_path (ofB b) hne y.lang (s : Int) rs (show stage (s : Int) from ⟨by omega, by omega⟩)
  unfold pathP valP at e
  rw [← hf, ← ht, ofB_mem h2 (List.mem_of_getElem? hi), ofB_mem h2 (List.mem_of_getElem? hk), ofB_mem h2 (List.mem_of_getElem? hj)] at e
  simp only [Option.getD_some] at e
  rw [e]
  have li := lang_at h2 hj hi
  have lk := lang_at h2 hj hk
  have hik : i ≠ k := fun e2 => hne (by rw [← hf, ← ht]; exact (lang_at h2 hi hk).2 e2)
  unfold pathT
  by_cases m1 : x.ms ≤ qg yf.q x.stg
  · by_cases m2 : qg yt.q x.stg + x.ms ≤ most
    · by_cases m3 : x.stg ≤ (s : Int)
      · rw [if_neg (by omega)]
        by_cases c1 : j = i
        · have c2 : ¬ j = k := by omega
          have c1' := li.2 c1
          have q1 : ¬ (j : Int) = (k : Int) := by omega
          subst c1
          simp [m1, m2, m3, c1', q1]
        · have q1 : ¬ (j : Int) = (i : Int) := by omega
          have c1' : ¬ y.lang = yf.lang := fun e => c1 (li.1 e)
          by_cases c2 : j = k
          · have c2' := lk.2 c2
            subst c2
            simp [m1, m2, m3, q1, c1', c2']
            intro e; exact absurd (c2'.trans e) c1'
          · have q2 : ¬ (j : Int) = (k : Int) := by omega
            have c2' : ¬ y.lang = yt.lang := fun e => c2 (lk.1 e)
            simp [q1, q2, c1', c2']
      · rw [if_pos (by omega)]
        simp [m3]
    · rw [if_pos (by omega)]
      simp [m2]
  · rw [if_pos (by omega)]
    simp [m1]
end Go.Proofs.Ytklndmnhhakmiaa

/-
  Layer 14 (frames): Start and At, there and back; tenths of an hour.
-/
import Derived.Test.YtbifppncjplebaaFPure2
namespace Go.Proofs.Ytbifppncjplebaa
open Go.RowKit Go.Mine

def BM (b M : Int) : Prop := (b = 24 ∧ M = 1000) ∨ (b = 25 ∧ M = 1000) ∨ (b = 30 ∧ M = 1000) ∨ (b = 50 ∧ M = 1000) ∨ (b = 60 ∧ M = 1000) ∨ (b = 24 ∧ M = 1001) ∨ (b = 30 ∧ M = 1001) ∨ (b = 60 ∧ M = 1001)
theorem bm_of {b : Int} {s d : Bool} (h : okR b s d = true) : BM b (msR s) := by
  unfold okR at h
  simp only [Bool.or_eq_true, Bool.and_eq_true, beq_iff_eq] at h
  unfold BM msR
  cases d <;> cases s <;> simp_all <;> omega
def st (b M n : Int) : Int := (n * M + b - 1) / b
theorem st_lt {b M n : Int} (h : BM b M) : st b M n < st b M (n + 1) := by
  unfold st
  rcases h with ⟨rfl, rfl⟩ | ⟨rfl, rfl⟩ | ⟨rfl, rfl⟩ | ⟨rfl, rfl⟩ | ⟨rfl, rfl⟩ | ⟨rfl, rfl⟩ | ⟨rfl, rfl⟩ | ⟨rfl, rfl⟩ <;> omega
theorem st_at {b M n : Int} (h : BM b M) (h0 : 0 ≤ n ∧ n < 1073741824) : st b M n * b / M = n ∧ 0 ≤ st b M n ∧ st b M n < 1099511627776 := by
  unfold st
  rcases h with ⟨rfl, rfl⟩ | ⟨rfl, rfl⟩ | ⟨rfl, rfl⟩ | ⟨rfl, rfl⟩ | ⟨rfl, rfl⟩ | ⟨rfl, rfl⟩ | ⟨rfl, rfl⟩ | ⟨rfl, rfl⟩ <;> omega
theorem at_lo {b M n t : Int} (h : BM b M) (ht : t < st b M n) : t * b / M < n := by
  unfold st at ht
  rcases h with ⟨rfl, rfl⟩ | ⟨rfl, rfl⟩ | ⟨rfl, rfl⟩ | ⟨rfl, rfl⟩ | ⟨rfl, rfl⟩ | ⟨rfl, rfl⟩ | ⟨rfl, rfl⟩ | ⟨rfl, rfl⟩ <;> omega
theorem at_hi {b M n t : Int} (h : BM b M) (ht : st b M n ≤ t) : n ≤ t * b / M := by
  unfold st at ht
  rcases h with ⟨rfl, rfl⟩ | ⟨rfl, rfl⟩ | ⟨rfl, rfl⟩ | ⟨rfl, rfl⟩ | ⟨rfl, rfl⟩ | ⟨rfl, rfl⟩ | ⟨rfl, rfl⟩ | ⟨rfl, rfl⟩ <;> omega
theorem startR_ok {b : Int} {s d : Bool} {n : Int} (ho : okR b s d = true) (hn : 0 ≤ n ∧ n < 1073741824) : startR b s d n = (st b (msR s) n, 0) := by
  unfold startR
  rw [if_pos ho, if_pos (by simpa [numB] using hn)]; rfl
theorem atR_own {b : Int} {s d : Bool} {n : Int} (ho : okR b s d = true) (hn : 0 ≤ n ∧ n < 1073741824) : atR b s d (st b (msR s) n) = (n, 0) := by
  obtain ⟨h1, h2, h3⟩ := st_at (bm_of ho) hn
  unfold atR
  rw [if_pos ho, if_pos ⟨h2, h3⟩, h1, if_pos (by simpa [numB] using hn)]
/-- the four ways of At -/
theorem atR_ways {b : Int} {s d : Bool} {n t : Int} (ho : okR b s d = true) (hn : 0 ≤ n ∧ n < 1073741823) (ht : 0 ≤ t ∧ t < 1099511627776) :
    ((atR b s d t).2 = 2 ∧ st b (msR s) (n + 1) ≤ t) ∨ ((atR b s d t).2 = 0 ∧ (t < st b (msR s) n ∧ ((atR b s d t).1 == n) = false ∨ (st b (msR s) n ≤ t ∧ t < st b (msR s) (n + 1) ∧ (atR b s d t).1 = n) ∨ (st b (msR s) n ≤ t ∧ st b (msR s) (n + 1) ≤ t ∧ ((atR b s d t).1 == n) = false))) := by
  have hb := bm_of ho
  have hv : 0 ≤ t * b / msR s := by
    have := okR_pos ho
    exact Int.ediv_nonneg (Int.mul_nonneg ht.1 (by omega)) (by unfold msR; split <;> omega)
  have hlt := st_lt (n := n) hb
  unfold atR
  rw [if_pos ho, if_pos ht]
  cases hnb : numB (t * b / msR s)
  · left
    refine ⟨by simp, ?_⟩
    have h2 : ¬ t * b / msR s < 1073741824 := by
      intro h; rw [show numB (t * b / msR s) = true by simp [numB, hv, h]] at hnb; cases hnb
    rcases Int.lt_or_le t (st b (msR s) (n + 1)) with h | h
    · have := at_lo hb h; omega
    · exact h
  · right
    refine ⟨by simp, ?_⟩
    simp only [if_true]
    rcases Int.lt_or_le t (st b (msR s) n) with h | h
    · left
      have := at_lo hb h
      exact ⟨h, by simp; omega⟩
    · right
      have h1 := at_hi hb h
      rcases Int.lt_or_le t (st b (msR s) (n + 1)) with h' | h'
      · left
        have := at_lo hb h'
        exact ⟨h, h', by omega⟩
      · right
        have := at_hi hb h'
        exact ⟨h, h', by simp; omega⟩

/-- without Drop a label is its number, written with the bases 60, 60 and b -/
theorem label_plain {b : Int} {s : Bool} {n : Int} (ho : okR b s false = true) (hn : 0 ≤ n ∧ n < 1073741824) {h m sc f : Int} (hx : labelI b (dropR b false) n = ⟨h, m, sc, f⟩) :
    ((h * 60 + m) * 60 + sc) * b + f = n ∧ f < b ∧ sc < 60 ∧ m < 60 ∧ 0 ≤ h ∧ 0 ≤ m ∧ 0 ≤ sc ∧ 0 ≤ f ∧ h ≤ n ∧ b ≤ 60 ∧ 24 ≤ b := by
  have hp := pair_of ho
  have hI := labelI_is hp hn.1
  rw [hx] at hI
  have hh := isL_hour hp hI
  obtain ⟨h1, h2, h3, h4, h5, h6, h7, h8, h9⟩ := hI
  have hb := okR_pos ho
  dsimp only at h1 h2 h3 h4 h5 h6 h7 h9 hh
  refine ⟨?_, h7, h5, h3, h1, h2, h4, h6, hh, hb.2, hb.1⟩
  rw [← h9]
  unfold numOf dropR
  simp only [Bool.false_eq_true, if_false, Int.zero_mul, Int.sub_zero]
  rw [Int.mul_comm 60 h, Int.mul_comm 60]
/-- with Drop: the label of each tenth -/
theorem tenth {b : Int} {s : Bool} (ho : okR b s true = true) {k : Int} (hk : 0 ≤ k ∧ k < 2000) :
    ∃ F S, frameR b s true (k / 6) (k % 6 * 10) 0 0 = (F, 0) ∧ startR b s true F = (S, 0) ∧ S ≤ 600000 * k ∧ 600000 * k - k ≤ S := by
  have hb3 : s = true ∧ (b = 30 ∨ b = 60) := by
    unfold okR at ho
    simp only [Bool.or_eq_true, Bool.and_eq_true, beq_iff_eq] at ho
    cases s <;> simp_all
  obtain ⟨rfl, hb⟩ := hb3
  have hr : rangeB b (k / 6) (k % 6 * 10) 0 0 = true := by rw [rangeB_iff]; omega
  have hl : leftOut (dropR b true) (k % 6 * 10) 0 0 = false := by
    unfold leftOut
    have : k % 6 * 10 % 10 = 0 := by omega
    simp [this]
  have hn : 0 ≤ numOf b (dropR b true) (k / 6) (k % 6 * 10) 0 0 ∧ numOf b (dropR b true) (k / 6) (k % 6 * 10) 0 0 < 1073741824 := by
    unfold numOf dropR
    rcases hb with rfl | rfl <;> simp only [if_true] <;> omega
  refine ⟨numOf b (dropR b true) (k / 6) (k % 6 * 10) 0 0, st b (msR true) (numOf b (dropR b true) (k / 6) (k % 6 * 10) 0 0), ?_, startR_ok ho hn, ?_⟩
  · unfold frameR
    rw [if_pos ho, if_pos hr, hl]
    simp only [Bool.false_eq_true, if_false]
    rw [if_neg (by omega), if_pos (by simpa [numB] using hn)]
  · unfold st msR numOf dropR
    rcases hb with rfl | rfl <;> simp only [if_true] <;> omega
end Go.Proofs.Ytbifppncjplebaa

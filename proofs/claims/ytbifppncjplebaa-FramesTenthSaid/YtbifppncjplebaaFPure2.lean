/-
  Layer 14 (frames): labels and frames, there and back; the next label; times; tenths.
-/
import Derived.Test.YtbifppncjplebaaFSane
namespace Go.Proofs.Ytbifppncjplebaa
open Go.RowKit Go.Mine

theorem labelR_ok {b : Int} {s d : Bool} {n : Int} (ho : okR b s d = true) (hn : 0 ≤ n ∧ n < 1073741824) : labelR b s d n = (labelI b (dropR b d) n, 0) := by
  unfold labelR
  rw [if_pos ho, if_pos (by simpa [numB] using hn)]
theorem isL_range {b D n : Int} {x : Lb} (h : IsL b D n x) : rangeB b x.h x.m x.s x.f = true ∧ leftOut D x.m x.s x.f = false := by
  obtain ⟨h1, h2, h3, h4, h5, h6, h7, h8, h9⟩ := h
  refine ⟨by rw [rangeB_iff]; exact ⟨h1, h2, h3, h4, h5, h6, h7⟩, ?_⟩
  unfold leftOut
  by_cases c1 : x.m % 10 = 0 <;> by_cases c2 : x.s = 0 <;> by_cases c3 : x.f < D <;> simp [c1, c2, c3] <;> omega
theorem isL_of {b D h m s f : Int} (hr : rangeB b h m s f = true) (hl : leftOut D m s f = false) : IsL b D (numOf b D h m s f) ⟨h, m, s, f⟩ := by
  rw [rangeB_iff] at hr
  obtain ⟨h1, h2, h3, h4, h5, h6, h7⟩ := hr
  refine ⟨h1, h2, h3, h4, h5, h6, h7, ?_, rfl⟩
  rintro ⟨a, b, c⟩
  dsimp only at a b c
  subst b
  simp [leftOut, a, c] at hl
theorem isL_hour {b D n : Int} {x : Lb} (hp : Pair b D) (h : IsL b D n x) : x.h ≤ n := by
  obtain ⟨h1, h2, h3, h4, h5, h6, h7, h8, h9⟩ := h
  unfold numOf at h9
  rcases hp with ⟨rfl, rfl⟩ | ⟨rfl, rfl⟩ | ⟨rfl, rfl⟩ | ⟨rfl, rfl⟩ | ⟨rfl, rfl⟩ | ⟨rfl, rfl⟩ | ⟨rfl, rfl⟩ <;> omega

/-- the frame of a label that has a frame has this label -/
theorem frame_label {b : Int} {s d : Bool} {h m sc f : Int} (ho : okR b s d = true) (he : (frameR b s d h m sc f).2 = 0) : labelR b s d (frameR b s d h m sc f).1 = (⟨h, m, sc, f⟩, 0) := by
  unfold frameR at he ⊢
  rw [ho] at he ⊢
  simp only [if_true] at he ⊢
  cases hr : rangeB b h m sc f
  · rw [hr] at he; simp at he
  rw [hr] at he
  simp only [if_true] at he ⊢
  cases hl : leftOut (dropR b d) m sc f
  case true => rw [hl] at he; simp at he
  rw [hl] at he
  simp only [Bool.false_eq_true, if_false] at he ⊢
  by_cases hh : 1073741824 ≤ h
  · rw [if_pos hh] at he; simp at he
  rw [if_neg hh] at he ⊢
  cases hn : numB (numOf b (dropR b d) h m sc f)
  · rw [hn] at he; simp at he
  simp only [if_true]
  have hn' : 0 ≤ numOf b (dropR b d) h m sc f ∧ numOf b (dropR b d) h m sc f < 1073741824 := by simpa [numB] using hn
  rw [labelR_ok ho hn', labelI_eq (pair_of ho) hn'.1 (isL_of hr hl)]
/-- the label of a frame has this frame -/
theorem label_frame {b : Int} {s d : Bool} {n : Int} (ho : okR b s d = true) (hn : 0 ≤ n ∧ n < 1073741824) :
    frameR b s d (labelI b (dropR b d) n).h (labelI b (dropR b d) n).m (labelI b (dropR b d) n).s (labelI b (dropR b d) n).f = (n, 0) := by
  have h := labelI_is (pair_of ho) hn.1
  have hh := isL_hour (pair_of ho) h
  obtain ⟨h1, h2⟩ := isL_range h
  have h9 := h.2.2.2.2.2.2.2.2
  unfold frameR
  rw [ho, h1, h2, h9]
  simp only [if_true, Bool.false_eq_true, if_false]
  rw [if_neg (by omega), if_pos (by simpa [numB] using hn)]
theorem label_before {b : Int} {s d : Bool} {n n2 : Int} (ho : okR b s d = true) (hn : 0 ≤ n) (hn2 : 0 ≤ n2) :
    before (labelI b (dropR b d) n).h (labelI b (dropR b d) n).m (labelI b (dropR b d) n).s (labelI b (dropR b d) n).f (labelI b (dropR b d) n2).h (labelI b (dropR b d) n2).m (labelI b (dropR b d) n2).s (labelI b (dropR b d) n2).f = decide (n < n2) :=
  isL_lt (pair_of ho) (labelI_is (pair_of ho) hn) (labelI_is (pair_of ho) hn2)
theorem frameR_e (b : Int) (s d : Bool) (h m sc f : Int) : (frameR b s d h m sc f).2 = 0 ∨ (frameR b s d h m sc f).2 = 140 ∨ (frameR b s d h m sc f).2 = 2 := by
  unfold frameR
  repeat' split
  all_goals simp

/-- the next label -/
def carryL (b : Int) (d : Bool) (x : Lb) : Lb :=
  if x.f + 1 = b then
    if x.s + 1 = 60 then
      if x.m + 1 = 60 then ⟨x.h + 1, 0, 0, 0⟩
      else ⟨x.h, x.m + 1, 0, if d = true ∧ (x.m + 1) % 10 ≠ 0 then b / 15 else 0⟩
    else ⟨x.h, x.m, x.s + 1, 0⟩
  else ⟨x.h, x.m, x.s, x.f + 1⟩
theorem carry_is {b : Int} {s d : Bool} {n : Int} {x : Lb} (ho : okR b s d = true) (h : IsL b (dropR b d) n x) : IsL b (dropR b d) (n + 1) (carryL b d x) := by
  obtain ⟨xh, xm, xs, xf⟩ := x
  have hp := pair_of ho
  have hd : dropR b d = if d = true then b / 15 else 0 := rfl
  unfold IsL numOf at h ⊢
  unfold carryL
  dsimp only at h ⊢
  obtain ⟨h1, h2, h3, h4, h5, h6, h7, h8, h9⟩ := h
  have hbd : 24 ≤ b ∧ b ≤ 60 := okR_pos ho
  cases d
  · simp only [Bool.false_eq_true, if_false] at hd
    rw [hd] at h8 h9 hp ⊢
    clear ho hd
    simp only [Bool.false_eq_true, false_and, if_false, Int.zero_mul] at h9 ⊢
    rcases hp with ⟨rfl, _⟩ | ⟨rfl, _⟩ | ⟨rfl, _⟩ | ⟨rfl, _⟩ | ⟨rfl, _⟩ | ⟨rfl, hz⟩ | ⟨rfl, hz⟩ <;> (repeat' split) <;> dsimp only <;> omega
  · simp only [if_true] at hd
    rw [hd] at h8 h9 hp ⊢
    clear ho hd
    simp only [true_and]
    have hb3 : b = 30 ∨ b = 60 := by
      rcases hp with ⟨rfl, hz⟩ | ⟨rfl, hz⟩ | ⟨rfl, hz⟩ | ⟨rfl, hz⟩ | ⟨rfl, hz⟩ | ⟨rfl, hz⟩ | ⟨rfl, hz⟩ <;> omega
    rcases hb3 with rfl | rfl <;> (repeat' split) <;> dsimp only <;> omega
theorem label_next {b : Int} {s d : Bool} {n : Int} (ho : okR b s d = true) (hn : 0 ≤ n) : labelI b (dropR b d) (n + 1) = carryL b d (labelI b (dropR b d) n) :=
  labelI_eq (pair_of ho) (by omega) (carry_is ho (labelI_is (pair_of ho) hn))
theorem label_zero {b : Int} {s d : Bool} (ho : okR b s d = true) : labelI b (dropR b d) 0 = ⟨0, 0, 0, 0⟩ := by
  refine labelI_eq (pair_of ho) (by omega) ?_
  have hp := pair_of ho
  unfold IsL numOf
  dsimp only
  rcases hp with ⟨rfl, h⟩ | ⟨rfl, h⟩ | ⟨rfl, h⟩ | ⟨rfl, h⟩ | ⟨rfl, h⟩ | ⟨rfl, h⟩ | ⟨rfl, h⟩ <;> rw [h] <;> omega
end Go.Proofs.Ytbifppncjplebaa

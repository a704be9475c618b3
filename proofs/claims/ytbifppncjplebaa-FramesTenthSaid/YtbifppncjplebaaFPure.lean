/-
  Layer 14 (frames): labels and numbers, plainly: the label by the program's own sum is used and has the number; there is one such label; the order of labels is that of numbers.
-/
import Derived.Test.YtbifppncjplebaaFFrame
namespace Go.Proofs.Ytbifppncjplebaa
open Go.RowKit Go.Mine

def Pair (b D : Int) : Prop := (b = 24 ∧ D = 0) ∨ (b = 25 ∧ D = 0) ∨ (b = 30 ∧ D = 0) ∨ (b = 50 ∧ D = 0) ∨ (b = 60 ∧ D = 0) ∨ (b = 30 ∧ D = 2) ∨ (b = 60 ∧ D = 4)
theorem pair_of {b : Int} {s d : Bool} (h : okR b s d = true) : Pair b (dropR b d) := by
  unfold okR at h
  simp only [Bool.or_eq_true, Bool.and_eq_true, beq_iff_eq] at h
  unfold Pair dropR
  cases d <;> cases s <;> simp_all <;> omega

def nx (b D n : Int) : Int := if 60 * b ≤ n % (600 * b - 9 * D) then n + 9 * D * (n / (600 * b - 9 * D)) + D * ((n % (600 * b - 9 * D) - D) / (60 * b - D)) else n + 9 * D * (n / (600 * b - 9 * D))
structure Lb where
  h : Int
  m : Int
  s : Int
  f : Int
deriving DecidableEq
def Lb.v (x : Lb) : Value := .agg #[.int .i64 x.h, .int .i64 x.m, .int .i64 x.s, .int .i64 x.f]
def cut (b N : Int) : Lb := ⟨N / b / 60 / 60, N / b / 60 % 60, N / b % 60, N % b⟩
def labelI (b D n : Int) : Lb := cut b (nx b D n)
def labelR (b : Int) (s d : Bool) (n : Int) : Lb × Int := if okR b s d = true then if numB n = true then (labelI b (dropR b d) n, 0) else (⟨0, 0, 0, 0⟩, 1) else (⟨0, 0, 0, 0⟩, 140)

/-- x is used, and its number is n -/
def IsL (b D n : Int) (x : Lb) : Prop := 0 ≤ x.h ∧ 0 ≤ x.m ∧ x.m < 60 ∧ 0 ≤ x.s ∧ x.s < 60 ∧ 0 ≤ x.f ∧ x.f < b ∧ ¬ (x.m % 10 ≠ 0 ∧ x.s = 0 ∧ x.f < D) ∧ numOf b D x.h x.m x.s x.f = n

/-- minute M and the place k in it -/
theorem cut_is {b D n M k : Int} (hp : Pair b D) (hM : 0 ≤ M) (hk : 0 ≤ k) (hk' : k < 60 * b) (hu : M % 10 ≠ 0 → D ≤ k) (hn : n = M * (60 * b) + k - D * (M - M / 10)) : IsL b D n ⟨M / 60, M % 60, k / b, k % b⟩ := by
  unfold IsL numOf
  dsimp only
  have e : 60 * (M / 60) + M % 60 = M := by omega
  rw [e]
  have e2 : (M % 60) % 10 = M % 10 := by omega
  rw [e2]
  rcases hp with ⟨rfl, rfl⟩ | ⟨rfl, rfl⟩ | ⟨rfl, rfl⟩ | ⟨rfl, rfl⟩ | ⟨rfl, rfl⟩ | ⟨rfl, rfl⟩ | ⟨rfl, rfl⟩ <;> omega

theorem nx_is {b D n : Int} (hp : Pair b D) (h0 : 0 ≤ n) : ∃ M k, nx b D n = M * (60 * b) + k ∧ 0 ≤ M ∧ 0 ≤ k ∧ k < 60 * b ∧ (M % 10 ≠ 0 → D ≤ k) ∧ n = M * (60 * b) + k - D * (M - M / 10) := by
  refine ⟨nx b D n / (60 * b), nx b D n % (60 * b), ?_⟩
  unfold nx
  rcases hp with ⟨rfl, rfl⟩ | ⟨rfl, rfl⟩ | ⟨rfl, rfl⟩ | ⟨rfl, rfl⟩ | ⟨rfl, rfl⟩ | ⟨rfl, rfl⟩ | ⟨rfl, rfl⟩ <;> split <;> omega

theorem cut_eq {b M k : Int} {D : Int} (hp : Pair b D) (hM : 0 ≤ M) (hk : 0 ≤ k) (hk' : k < 60 * b) : cut b (M * (60 * b) + k) = ⟨M / 60, M % 60, k / b, k % b⟩ := by
  unfold cut
  simp only [Lb.mk.injEq]
  rcases hp with ⟨rfl, rfl⟩ | ⟨rfl, rfl⟩ | ⟨rfl, rfl⟩ | ⟨rfl, rfl⟩ | ⟨rfl, rfl⟩ | ⟨rfl, rfl⟩ | ⟨rfl, rfl⟩ <;> omega

theorem labelI_is {b D n : Int} (hp : Pair b D) (h0 : 0 ≤ n) : IsL b D n (labelI b D n) := by
  obtain ⟨M, k, h1, h2, h3, h4, h5, h6⟩ := nx_is hp h0
  rw [labelI, h1, cut_eq hp h2 h3 h4]
  exact cut_is hp h2 h3 h4 h5 h6

/-- the order -/
theorem isL_lt {b D n n' : Int} {x y : Lb} (hp : Pair b D) (hx : IsL b D n x) (hy : IsL b D n' y) : before x.h x.m x.s x.f y.h y.m y.s y.f = decide (n < n') := by
  obtain ⟨h, m, s, f⟩ := x
  obtain ⟨h', m', s', f'⟩ := y
  unfold IsL numOf at hx hy
  dsimp only at hx hy ⊢
  obtain ⟨x1, x2, x3, x4, x5, x6, x7, x8, x9⟩ := hx
  obtain ⟨y1, y2, y3, y4, y5, y6, y7, y8, y9⟩ := hy
  have hM : (60 * h + m) % 10 = m % 10 := by omega
  have hM' : (60 * h' + m') % 10 = m' % 10 := by omega
  rw [← hM] at x8
  rw [← hM'] at y8
  unfold before
  generalize hMv : 60 * h + m = M at *
  generalize hMv' : 60 * h' + m' = M' at *
  clear hM hM'
  have key : (M < M' → n < n') ∧ (M' < M → n' < n) ∧ (M = M' → s < s' → n < n') ∧ (M = M' → s' < s → n' < n) ∧ (M = M' → s = s' → f < f' → n < n') ∧ (M = M' → s = s' → f' < f → n' < n) ∧ (M = M' → s = s' → f = f' → n = n') := by
    have p1 : 0 ≤ M := by omega
    have p2 : 0 ≤ M' := by omega
    clear hMv hMv' x1 x2 x3 y1 y2 y3
    rcases hp with ⟨rfl, rfl⟩ | ⟨rfl, rfl⟩ | ⟨rfl, rfl⟩ | ⟨rfl, rfl⟩ | ⟨rfl, rfl⟩ | ⟨rfl, rfl⟩ | ⟨rfl, rfl⟩ <;> refine ⟨?_, ?_, ?_, ?_, ?_, ?_, ?_⟩ <;> omega
  obtain ⟨k1, k2, k3, k4, k5, k6, k7⟩ := key
  clear x8 y8 x9 y9
  split
  · split
    · split
      · rw [decide_eq_decide]; omega
      · rw [decide_eq_decide]; omega
    · rw [decide_eq_decide]; omega
  · rw [decide_eq_decide]; omega

theorem before_irr {x y : Lb} (h1 : before x.h x.m x.s x.f y.h y.m y.s y.f = false) (h2 : before y.h y.m y.s y.f x.h x.m x.s x.f = false) : x = y := by
  obtain ⟨h, m, s, f⟩ := x
  obtain ⟨h', m', s', f'⟩ := y
  unfold before at h1 h2
  dsimp only at h1 h2
  rw [Lb.mk.injEq]
  repeat' split at h1
  all_goals repeat' split at h2
  all_goals simp only [decide_eq_false_iff_not] at h1 h2
  all_goals omega
theorem isL_one {b D n : Int} {x y : Lb} (hp : Pair b D) (hx : IsL b D n x) (hy : IsL b D n y) : x = y :=
  before_irr (by rw [isL_lt hp hx hy]; simp) (by rw [isL_lt hp hy hx]; simp)
theorem labelI_eq {b D n : Int} {x : Lb} (hp : Pair b D) (h0 : 0 ≤ n) (hx : IsL b D n x) : labelI b D n = x := isL_one hp (labelI_is hp h0) hx
end Go.Proofs.Ytbifppncjplebaa

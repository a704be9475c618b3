/-
  Layer 14 (frames): the small functions.
-/
import Derived.Test.YtbifppncjplebaaRows
import Derived.Test.YtbifppncjplebaaStillIn
import Derived.Test.YtbifppncjplebaaQuietB
namespace Go.Proofs.Ytbifppncjplebaa
open Go.RowKit Go.Mine

def numB (n : Int) : Bool := decide (0 ≤ n) && decide (n < 1073741824)
def dropR (b : Int) (d : Bool) : Int := if d = true then b / 15 else 0
def msR (s : Bool) : Int := if s = true then 1001 else 1000

theorem numbered_any (n : Int) (w : World) : Calls Try.prog 22 #[.int .i64 n] w fun e w' => e = .returned (.bool (numB n)) ∧ w = w' := by
  go_enter Try.func22, Try.ntmps22
  go_wp2
  all_goals (go_ret; exact ⟨ret_bool (by unfold numB; rw [Bool.eq_iff_iff]; simp [*]; try omega), rfl⟩)
theorem frameN_any (n : Int) (w : World) : Calls Try.prog 25 #[.int .i64 n] w fun e w' => e = .returned (.bool (numB n)) ∧ w = w' := by
  go_enter Try.func25, Try.ntmps25
  go_wp2
  all_goals (go_ret; exact ⟨ret_bool (by unfold numB; rw [Bool.eq_iff_iff]; simp [*]; try omega), rfl⟩)
theorem dropped_any (b : Int) (s d : Bool) (hb : 0 ≤ b ∧ b ≤ 60) (w : World) : Calls Try.prog 23 #[.agg #[.int .i64 b, .bool s, .bool d]] w fun e w' => e = .returned (.int .i64 (dropR b d)) ∧ Below w.heap.size w w' := by
  obtain ⟨h1, h2⟩ := hb
  cases d
  all_goals
    go_enter Try.func23, Try.ntmps23
    go_wp2
    go_ret
    exact ⟨rfl, (Below.refl _ _).alloc (Nat.le_refl _) _⟩
theorem left_any (b : Int) (s d : Bool) (hb : 0 ≤ b ∧ b ≤ 60) (w : World) : Calls Try.prog 27 #[.agg #[.int .i64 b, .bool s, .bool d]] w fun e w' => e = .returned (.int .i64 (dropR b d)) ∧ Below w.heap.size w w' := by
  obtain ⟨h1, h2⟩ := hb
  cases d
  all_goals
    go_enter Try.func27, Try.ntmps27
    go_wp2
    go_ret
    exact ⟨rfl, (Below.refl _ _).alloc (Nat.le_refl _) _⟩
theorem ms_any (b : Int) (s d : Bool) (w : World) : Calls Try.prog 29 #[.agg #[.int .i64 b, .bool s, .bool d]] w fun e w' => e = .returned (.int .i64 (msR s)) ∧ Below w.heap.size w w' := by
  cases s
  all_goals
    go_enter Try.func29, Try.ntmps29
    go_wp2
    go_ret
    exact ⟨rfl, (Below.refl _ _).alloc (Nat.le_refl _) _⟩
theorem length_any (b : Int) (s d : Bool) (w : World) : Calls Try.prog 30 #[.agg #[.int .i64 b, .bool s, .bool d]] w fun e w' => e = .returned (.int .i64 (msR s)) ∧ Below w.heap.size w w' := by
  cases s
  all_goals
    go_enter Try.func30, Try.ntmps30
    go_wp2
    go_ret
    exact ⟨rfl, (Below.refl _ _).alloc (Nat.le_refl _) _⟩
theorem drop_any (w : World) : Calls Try.prog 21 #[] w fun e w' => e = .returned (.agg #[.int .i64 30, .bool true, .bool true]) ∧ Below w.heap.size w w' := by
  go_enter Try.func21, Try.ntmps21
  go_wp2
  refine bodyPost_ret (v := .agg #[.int .i64 30, .bool true, .bool true]) (by simp [results, Try.results21, go_sem]) rfl ⟨rfl, ?_⟩
  exact (Below.refl _ _).alloc (Nat.le_refl _) _

def before (h m s f h' m' s' f' : Int) : Bool := if h = h' then if m = m' then if s = s' then decide (f < f') else decide (s < s') else decide (m < m') else decide (h < h')
theorem before_any (h m s f h' m' s' f' : Int) (w : World) : Calls Try.prog 20 #[.agg #[.int .i64 h, .int .i64 m, .int .i64 s, .int .i64 f], .agg #[.int .i64 h', .int .i64 m', .int .i64 s', .int .i64 f']] w fun e w' => e = .returned (.bool (before h m s f h' m' s' f')) ∧ Below w.heap.size w w' := by
  go_enter Try.func20, Try.ntmps20
  go_wp2
  all_goals go_ret
  all_goals refine ⟨ret_bool ?_, ((Below.refl _ _).alloc (Nat.le_refl _) _).alloc (by simp) _⟩
  all_goals simp_all [before]

def minR (b D m : Int) : Int := m * 60 * b - D * (m - (m + 9) / 10)
theorem minute_any (b : Int) (s d : Bool) (m : Int) (hb : 0 ≤ b ∧ b ≤ 60) (hm : 0 ≤ m ∧ m ≤ 1099511627776) (w : World) :
    Calls Try.prog 26 #[.agg #[.int .i64 b, .bool s, .bool d], .int .i64 m] w fun e w' => e = .returned (.int .i64 (minR b (dropR b d) m)) ∧ Below w.heap.size w w' := by
  obtain ⟨b1, b2⟩ := hb
  have K := hide (fun w => left_any b s d ⟨b1, b2⟩ w)
  have hD : 0 ≤ dropR b d ∧ dropR b d ≤ 4 := by unfold dropR; split <;> omega
  unfold minR
  generalize dropR b d = D at K hD
  obtain ⟨d1, d2⟩ := hD
  obtain ⟨m1, m2⟩ := hm
  have e1 : 0 ≤ m * 60 * b := Int.mul_nonneg (by omega) b1
  have e2 : m * 60 * b ≤ 1099511627776 * 60 * 60 := Int.mul_le_mul (by omega) b2 b1 (by omega)
  have e3 : 0 ≤ D * (m - (m + 9) / 10) := Int.mul_nonneg d1 (by omega)
  have e4 : D * (m - (m + 9) / 10) ≤ 4 * 1099511627776 := Int.mul_le_mul d2 (by omega) (by omega) (by omega)
  go_enter Try.func26, Try.ntmps26
  go_wp2_with fail
  generalize hw1 : w.alloc (Obj.cells #[Value.int IntKind.i64 b, Value.bool s, Value.bool d] 23) = w1
  have hB : Below w.heap.size w w1 := by rw [← hw1]; exact (Below.refl _ _).alloc (Nat.le_refl _) _
  have hlt : w.heap.size < w1.heap.size := by rw [← hw1]; simp
  have c0 := BW.get hlt (show w1.cell? ⟨w.heap.size, 0, none⟩ = some (.int .i64 b) by rw [← hw1, World.cell?, heap_new]; rfl)
  have c1 := BW.get hlt (show w1.cell? ⟨w.heap.size, 1, none⟩ = some (.bool s) by rw [← hw1, World.cell?, heap_new]; rfl)
  have c2 := BW.get hlt (show w1.cell? ⟨w.heap.size, 2, none⟩ = some (.bool d) by rw [← hw1, World.cell?, heap_new]; rfl)
  clear hw1
  refine wp_quiet_below (by kernel_rfl) (by kernel_rfl) ?_
  repeat (go_big_quiet_step ((go_at_call 27; exact quiet_below (K.out _))))
  refine wpQuiet_nil ?_
  rintro _ ⟨x, rfl⟩
  have hx := x.below
  go_wp2
  go_ret
  exact ⟨rfl, hB.trans (hx.mono hB.size)⟩

def usedB (b D h m s f : Int) : Bool := !(decide (h < 0) || decide (m < 0) || decide (59 < m) || decide (s < 0) || decide (59 < s) || decide (f < 0) || decide (b ≤ f)) && (decide (m % 10 = 0) || decide (0 < s) || decide (D ≤ f))
end Go.Proofs.Ytbifppncjplebaa

/-
  Layer 14 (frames): the check of a rate, by the program and by the reference.
-/
import Derived.Test.YtbifppncjplebaaRows
import Derived.Test.YtbifppncjplebaaStillIn
import Derived.Test.YtbifppncjplebaaBase
namespace Go.Proofs.Ytbifppncjplebaa
open Go.RowKit Go.Mine

/-- right rates -/
def okR (b : Int) (s d : Bool) : Bool :=
  (((b == 24) || (b == 30) || (b == 60)) && !d) || (((b == 25) || (b == 50)) && !s && !d) || (((b == 30) || (b == 60)) && s && d)
def chkR (b : Int) (s d : Bool) : Int := if okR b s d = true then 0 else 140

theorem eqI (a b : Int) (w : World) : (Op.equalIn 9999 20 (.iface 3 (.int .i64 a)) (.iface 3 (.int .i64 b))).run Try.prog w = .ok (a == b) w := by
  have hinfo : Try.prog.info? 3 = some Try.t3 := by kernel_rfl
  have hcomp : Try.t3.comparable = true := by kernel_rfl
  rw [show (9999 : Nat) = 9998 + 1 from rfl, Op.equalIn]
  simp [run_underlying Try.underlying20, typeInfo, hinfo, hcomp]
  rw [show (9998 : Nat) = 9997 + 1 from rfl, run_equalIn_int w 9997 3 .i64 .i64 a b Try.underlying3]
theorem eqB (a b : Bool) (w : World) : (Op.equalIn 9999 20 (.iface 4 (.bool a)) (.iface 4 (.bool b))).run Try.prog w = .ok (a == b) w := by
  have hinfo : Try.prog.info? 4 = some Try.t4 := by kernel_rfl
  have hcomp : Try.t4.comparable = true := by kernel_rfl
  rw [show (9999 : Nat) = 9998 + 1 from rfl, Op.equalIn]
  simp [run_underlying Try.underlying20, typeInfo, hinfo, hcomp]
  rw [show (9998 : Nat) = 9997 + 1 from rfl, run_equalIn_bool' w 9997 4 a b Try.underlying4]

def eq3 (b b' : Int) (s s' d d' : Bool) : Bool := (b == b') && ((s == s') && (d == d'))
theorem run_eql3 (b b' : Int) (s s' d d' : Bool) (w : World) :
    (binOp .eql 52 (.agg #[.iface 3 (.int .i64 b), .iface 4 (.bool s), .iface 4 (.bool d)]) (.agg #[.iface 3 (.int .i64 b'), .iface 4 (.bool s'), .iface 4 (.bool d')])).run Try.prog w = .ok (.bool (eq3 b b' s s' d d')) w := by
  have h : (Op.equalIn 10000 52 (.agg #[.iface 3 (.int .i64 b), .iface 4 (.bool s), .iface 4 (.bool d)]) (.agg #[.iface 3 (.int .i64 b'), .iface 4 (.bool s'), .iface 4 (.bool d')])).run Try.prog w = .ok (eq3 b b' s s' d d') w := by
    have z := Try.sizeOf20
    have g := Try.isAgg20
    have hI := eqI
    have hB := eqB
    rw [show (10000 : Nat) = 9999 + 1 from rfl, Op.equalIn]
    simp only [Sem.run_bind, run_underlying Try.underlying52, Result.andThen_ok]
    simp only [Std.Legacy.Range.forIn_eq_forIn_range', Std.Legacy.Range.size, Nat.sub_zero, Nat.add_sub_cancel, Nat.div_one, List.range'_succ, List.range'_zero, List.forIn_cons, List.forIn_nil]
    go_simp
    by_cases h1 : b = b' <;> cases s <;> cases s' <;> cases d <;> cases d' <;> simp [h1, eq3]
  rw [run_eql_struct, h]; rfl

def right3 (b : Int) (s d : Bool) : Prop := eq3 b 24 s false d false = true ∨ eq3 b 25 s false d false = true ∨ eq3 b 30 s false d false = true ∨ eq3 b 50 s false d false = true ∨ eq3 b 60 s false d false = true ∨
  eq3 b 24 s true d false = true ∨ eq3 b 30 s true d false = true ∨ eq3 b 60 s true d false = true ∨ eq3 b 30 s true d true = true ∨ eq3 b 60 s true d true = true
theorem right3_iff (b : Int) (s d : Bool) : right3 b s d ↔ okR b s d = true := by
  cases s <;> cases d <;> simp [right3, eq3, okR] <;> omega
theorem chkR_of (b : Int) (s d : Bool) (h : right3 b s d) : chkR b s d = 0 := by unfold chkR; rw [if_pos ((right3_iff b s d).1 h)]
theorem chkR_not (b : Int) (s d : Bool) (h : ¬ right3 b s d) : chkR b s d = 140 := by unfold chkR; rw [if_neg (fun h' => h ((right3_iff b s d).2 h'))]

set_option maxHeartbeats 1000000 in
theorem fcheck_any (b : Int) (s d : Bool) (w : World) :
    Calls Try.prog 14 #[.agg #[.int .i64 b, .bool s, .bool d]] w fun e w' => e = .returned (.int .i64 (chkR b s d)) ∧ Below w.heap.size w w' := by
  have hq := run_eql3
  go_enter Try.func14, Try.ntmps14
  go_wp2
  all_goals go_ret
  all_goals refine ⟨ret_int ?_, (Below.refl _ _).alloc (Nat.le_refl _) _⟩
  all_goals clear hq
  all_goals first
    | (exfalso; simp_all; done)
    | (refine (chkR_of b s d ?_).symm; simp only [right3]; simp only [*]; simp; done)
    | (refine (chkR_not b s d ?_).symm; simp only [right3]; simp only [*]; simp; done)

end Go.Proofs.Ytbifppncjplebaa

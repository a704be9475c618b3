/-
  BudgetsSpec, walked.
-/
import Derived.Test.YtklndmnhhakmiaaBM6
namespace Go.Proofs.Ytklndmnhhakmiaa
open Go.RowKit Go.Mine Go.Mine.B
attribute [local go_sem] Oper.semAt_some
set_option maxRecDepth 100000 in
set_option maxHeartbeats 4000000 in
theorem budgetsSpec_law (A : Option Addr) (c : Nat) (b : List Bu) (B : Option Addr) (d : Nat) (l : List Tr) (one : Bu) (stage : Int) (w : World) (hS : Sl buC 5 w A c b) (hT : Sl trC 7 w B d l) (hI : ∀ x ∈ b, BuS x) (hJ : ∀ x ∈ l, TrS x) :
    Calls Try.prog 3 #[.slice A b.length c, .slice B l.length d, buV one, .int .i64 stage] w fun e w' => e = .returned (.bool true) ∧ Below w.heap.size w w' := by
  have XB := Blk.new w (buC one).toArray 26
  have HB0 := hide (kalloc (Below.refl w.heap.size w) (.cells (buC one).toArray 26))
  have KS := hide (sane14 (w.alloc (.cells (buC one).toArray 26)))
  have KF := hide (fun w => few15 A B c d b l w)
  have K1 := hide (fun w => path16 one stage w)
  have K2 := hide (fun w => path17 one stage w)
  have K3 := hide (fun W (h : Below w.heap.size w W) => check18 A c b B d l W (hS.bel h) (hT.bel h) (BuS.all hI) (TrS.all hJ))
  have K4 := hide (fun W (h : Below w.heap.size w W) => check19 A c b B d l W (hS.bel h) (hT.bel h))
  generalize fewB b l = r at *
  generalize pathR one stage = q at *
  generalize chk 400 b l = z at *
  obtain ⟨n0, q0, q1, q2, q3⟩ := one
  simp only [buV, buC] at *
  clear hS hT
  cases r
  all_goals
    go_enter Try.func3, Try.ntmps3
    go_wp2_with fail
    refine KS.out.mono ?_
    rintro e w1 ⟨rfl, hb⟩
    have HB1 := hide (kcall HB0.out hb)
    replace XB := XB.bel hb
    have c0 := XB.cell (v := .int .i64 n0) 0 rfl
    have c1 := XB.cell (v := .int .i64 q0) 1 rfl
    have c2 := XB.cell (v := .int .i64 q1) 2 rfl
    have c3 := XB.cell (v := .int .i64 q2) 3 rfl
    have c4 := XB.cell (v := .int .i64 q3) 4 rfl
    clear hb KS
    go_wp2_with (go_at_call 15; refine (KF.out _).mono ?_; rintro e w' ⟨rfl, rfl⟩)
  · go_ret
    exact ⟨rfl, HB1.out⟩
  · refine (K1.out _).mono ?_
    rintro e w2 ⟨rfl, hb⟩
    have HB2 := hide (kcall HB1.out hb)
    replace XB := XB.bel hb
    clear c0 c1 c2 c3 c4
    have c0 := XB.cell (v := .int .i64 n0) 0 rfl
    have c1 := XB.cell (v := .int .i64 q0) 1 rfl
    have c2 := XB.cell (v := .int .i64 q1) 2 rfl
    have c3 := XB.cell (v := .int .i64 q2) 3 rfl
    have c4 := XB.cell (v := .int .i64 q3) 4 rfl
    clear hb
    go_wp2_with fail
    refine (K2.out _).mono ?_
    rintro e w3 ⟨rfl, hb⟩
    have HB3 := hide (kcall HB2.out hb)
    clear hb c0 c1 c2 c3 c4 XB
    go_wp2_with fail
    refine (K3.out _ HB3.out).mono ?_
    rintro e w4 ⟨rfl, hb⟩
    have HB4 := hide (kcall HB3.out hb)
    clear hb
    go_wp2_with fail
    refine (K4.out _ HB4.out).mono ?_
    rintro e w5 ⟨rfl, hb⟩
    have HB5 := hide (kcall HB4.out hb)
    clear hb
    go_wp2
    go_ret
    exact ⟨rfl, HB5.out⟩
end Go.Proofs.Ytklndmnhhakmiaa

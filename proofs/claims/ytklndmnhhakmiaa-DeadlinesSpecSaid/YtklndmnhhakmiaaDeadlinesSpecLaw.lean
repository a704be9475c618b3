/-
  DeadlinesSpec, walked.
-/
import Derived.Test.YtklndmnhhakmiaaBM6
import Derived.Test.YtklndmnhhakmiaaDSane
import Derived.Test.YtklndmnhhakmiaaDW11
namespace Go.Proofs.Ytklndmnhhakmiaa
open Go.RowKit Go.Mine Go.Mine.B
attribute [local go_sem] Oper.semAt_some
set_option maxRecDepth 100000 in
set_option maxHeartbeats 4000000 in
theorem deadlinesSpec_law (A : Option Addr) (c : Nat) (b : List Bu) (B : Option Addr) (d : Nat) (l : List Tr) (n u k s t : Int) (w : World) (hS : Sl buC 5 w A c b) (hT : Sl trC 7 w B d l) (hI : ∀ x ∈ b, BuS x) (hJ : ∀ x ∈ l, TrS x) :
    Calls Try.prog 9 #[.slice A b.length c, .slice B l.length d, .int .i64 n, .int .i64 u, .int .i64 k, .int .i64 s, .int .i64 t] w fun e w' => e = .returned (.bool true) ∧ Below w.heap.size w w' := by
  have KS := hide (sane25 w)
  have KF := hide (fun w => few15 A B c d b l w)
  have K1 := hide (fun W (h : Below w.heap.size w W) => due26 A c b B d l n u k W (hS.bel h) (hT.bel h) (BuS.all hI) (TrS.all hJ))
  have K2 := hide (fun W (h : Below w.heap.size w W) => due27 A c b B d l n u k W (hS.bel h) (hT.bel h))
  have K3 := hide (fun W (h : Below w.heap.size w W) => left28 A c b B d l n u k s t W (hS.bel h) (hT.bel h) (BuS.all hI) (TrS.all hJ))
  have K4 := hide (fun W (h : Below w.heap.size w W) => left29 A c b B d l n u k s t W (hS.bel h) (hT.bel h))
  generalize fewB b l = r at *
  generalize leftV 400 1 b l n u k s t = R at *
  generalize dueV 400 1 b l n u k = D at *
  obtain ⟨⟨q1, q2, q3, q4⟩, z⟩ := D
  obtain ⟨m, z2⟩ := R
  have e24 := fun d W => arr24 W q1 q2 q3 q4 q1 q2 q3 q4 (by simp) d
  clear hS hT
  cases r
  all_goals
    go_enter Try.func9, Try.ntmps9
    go_wp2_with fail
    refine KS.out.mono ?_
    rintro e w1 ⟨rfl, hb⟩
    have HB1 := hide hb
    clear hb KS
    go_wp2_with (go_at_call 15; refine (KF.out _).mono ?_; rintro e w' ⟨rfl, rfl⟩)
  · go_ret
    exact ⟨rfl, HB1.out⟩
  · refine (K1.out _ HB1.out).mono ?_
    rintro e w2 ⟨rfl, hb⟩
    have HB2 := hide (kcall HB1.out hb)
    clear hb K1
    simp only [qV, qC]
    go_wp2_with fail
    refine (K2.out _ (kalloc HB2.out _)).mono ?_
    rintro e w3 ⟨rfl, hb⟩
    have HB3 := hide (kcall (kalloc HB2.out _) hb)
    have X1 := hide ((Blk.new w2 #[.int .i64 q1, .int .i64 q2, .int .i64 q3, .int .i64 q4] 24).bel hb)
    clear hb K2
    simp only [qV, qC]
    go_wp2_with fail
    refine (K3.out _ (kalloc HB3.out _)).mono ?_
    rintro e w4 ⟨rfl, hb⟩
    have HB4 := hide (kcall (kalloc HB3.out _) hb)
    have X1 := hide ((X1.out.alloc _).bel hb)
    have X2 := hide ((Blk.new w3 #[.int .i64 q1, .int .i64 q2, .int .i64 q3, .int .i64 q4] 24).bel hb)
    clear hb K3
    go_wp2_with fail
    refine (K4.out _ HB4.out).mono ?_
    rintro e w5 ⟨rfl, hb⟩
    have HB5 := hide (kcall HB4.out hb)
    have X1 := X1.out.bel hb
    have X2 := X2.out.bel hb
    clear hb K4
    have c0 := X1.cell (v := .int .i64 q1) 0 rfl
    have c1 := X1.cell (v := .int .i64 q2) 1 rfl
    have c2 := X1.cell (v := .int .i64 q3) 2 rfl
    have c3 := X1.cell (v := .int .i64 q4) 3 rfl
    have d0 := X2.cell (v := .int .i64 q1) 0 rfl
    have d1 := X2.cell (v := .int .i64 q2) 1 rfl
    have d2 := X2.cell (v := .int .i64 q3) 2 rfl
    have d3 := X2.cell (v := .int .i64 q4) 3 rfl
    go_wp2
    go_ret
    exact ⟨rfl, HB5.out⟩
end Go.Proofs.Ytklndmnhhakmiaa

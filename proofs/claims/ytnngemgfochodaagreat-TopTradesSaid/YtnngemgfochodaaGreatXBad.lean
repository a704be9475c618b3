/-
  TopTrades, at input that it does not take.
-/
import Derived.Test.YtnngemgfochodaaGreatXW8
namespace Go.Proofs.YtnngemgfochodaaGreat
open Go.RowKit Go.Shelf Go.Mine Go.Mine.B Go.Mine.X
attribute [local go_sem] Oper.semAt_some
/-- what TopTrades takes -/
def goodB (b : List Bu) (l : List Tr) (at_ known : Int) (m n : Nat) : Prop :=
  (b.length = 0) ∨ (0 < b.length ∧ 6 < b.length) ∨ (0 < b.length ∧ b.length ≤ 6 ∧ 20 < l.length) ∨ (0 < b.length ∧ b.length ≤ 6 ∧ l.length ≤ 20 ∧ chk 400 b l ≠ 0) ∨ (0 < b.length ∧ b.length ≤ 6 ∧ l.length ≤ 20 ∧ chk 400 b l = 0 ∧ at_ < 0) ∨
  (0 < b.length ∧ b.length ≤ 6 ∧ l.length ≤ 20 ∧ chk 400 b l = 0 ∧ 0 ≤ at_ ∧ 549755813888 ≤ at_) ∨ (0 < b.length ∧ b.length ≤ 6 ∧ l.length ≤ 20 ∧ chk 400 b l = 0 ∧ 0 ≤ at_ ∧ at_ < 549755813888 ∧ known < 0) ∨
  (0 < b.length ∧ b.length ≤ 6 ∧ l.length ≤ 20 ∧ chk 400 b l = 0 ∧ 0 ≤ at_ ∧ at_ < 549755813888 ∧ 0 ≤ known ∧ 1099511627776 ≤ known) ∨ (0 < b.length ∧ b.length ≤ 6 ∧ l.length ≤ 20 ∧ chk 400 b l = 0 ∧ 0 ≤ at_ ∧ at_ < 549755813888 ∧ 0 ≤ known ∧ known < 1099511627776 ∧ m ≠ b.length) ∨
  (0 < b.length ∧ b.length ≤ 6 ∧ l.length ≤ 20 ∧ chk 400 b l = 0 ∧ 0 ≤ at_ ∧ at_ < 549755813888 ∧ 0 ≤ known ∧ known < 1099511627776 ∧ m = b.length ∧ n ≠ b.length) ∨
  (0 < b.length ∧ b.length ≤ 6 ∧ l.length ≤ 20 ∧ chk 400 b l = 0 ∧ 0 ≤ at_ ∧ at_ < 549755813888 ∧ 0 ≤ known ∧ known < 1099511627776 ∧ m = b.length ∧ n = b.length)
theorem goodB_all (b : List Bu) (l : List Tr) (at_ known : Int) (m n : Nat) : goodB b l at_ known m n := by
  unfold goodB
  by_cases a0 : b.length = 0
  · exact .inl a0
  refine .inr ?_
  have a0 : 0 < b.length := by omega
  by_cases a1 : 6 < b.length
  · exact .inl ⟨a0, a1⟩
  refine .inr ?_
  have a1 : b.length ≤ 6 := by omega
  by_cases a2 : 20 < l.length
  · exact .inl ⟨a0, a1, a2⟩
  refine .inr ?_
  have a2 : l.length ≤ 20 := by omega
  by_cases a3 : chk 400 b l = 0
  rotate_left
  · exact .inl ⟨a0, a1, a2, a3⟩
  refine .inr ?_
  by_cases a4 : at_ < 0
  · exact .inl ⟨a0, a1, a2, a3, a4⟩
  refine .inr ?_
  have a4 : 0 ≤ at_ := by omega
  by_cases a5 : 549755813888 ≤ at_
  · exact .inl ⟨a0, a1, a2, a3, a4, a5⟩
  refine .inr ?_
  have a5 : at_ < 549755813888 := by omega
  by_cases a6 : known < 0
  · exact .inl ⟨a0, a1, a2, a3, a4, a5, a6⟩
  refine .inr ?_
  have a6 : 0 ≤ known := by omega
  by_cases a7 : 1099511627776 ≤ known
  · exact .inl ⟨a0, a1, a2, a3, a4, a5, a6, a7⟩
  refine .inr ?_
  have a7 : known < 1099511627776 := by omega
  by_cases a8 : m = b.length
  rotate_left
  · exact .inl ⟨a0, a1, a2, a3, a4, a5, a6, a7, a8⟩
  refine .inr ?_
  by_cases a9 : n = b.length
  rotate_left
  · exact .inl ⟨a0, a1, a2, a3, a4, a5, a6, a7, a8, a9⟩
  exact .inr ⟨a0, a1, a2, a3, a4, a5, a6, a7, a8, a9⟩
def noB : Bu := ⟨-1, (0, 0, 0, 0)⟩
theorem path_no (w : World) : Calls Tryz.prog 4 #[.agg #[.int .i64 (-1), .int .i64 0, .int .i64 0, .int .i64 0, .int .i64 0], .int .i64 0] w fun e w' => e = .returned (.tuple #[.int .i64 0, .int .i64 400]) ∧ Below w.heap.size w w' := path16 noB 0 w
set_option maxRecDepth 100000 in
set_option maxHeartbeats 8000000 in
theorem top_bad (A : Option Addr) (c : Nat) (b : List Bu) (B : Option Addr) (d : Nat) (l : List Tr) (st : Nat) (at_ known : Int) (C : Option Addr) (f m : Nat) (D : Option Addr) (g n : Nat) (w : World) (hS : Sl buC 5 w A c b) (hT : Sl trC 7 w B d l) (hst : st < 256)
    (hG : goodB b l at_ known m n) (hN : ¬ (0 < b.length ∧ b.length ≤ 6 ∧ l.length ≤ 20 ∧ chk 400 b l = 0 ∧ 0 ≤ at_ ∧ at_ < 549755813888 ∧ 0 ≤ known ∧ known < 1099511627776 ∧ m = b.length ∧ n = b.length)) :
    Calls Tryz.prog 3 #[.slice A b.length c, .slice B l.length d, .int .u8 st, .int .i64 at_, .int .i64 known, .slice C m f, .slice D n g] w fun e w' => e = .returned (.bool true) ∧ Below w.heap.size w w' := by
  have hlc := hS.le
  have hc := hS.max
  have hld := hT.le
  have hd := hT.max
  have K5 := hide (fun W (h : Below w.heap.size w W) => check19 A c b B d l W (hS.bel h) (hT.bel h))
  clear hS hT
  unfold goodB at hG
  rcases hG with h | ⟨h0, h⟩ | ⟨h0, h1, h⟩ | ⟨h0, h1, h2, h⟩ | ⟨h0, h1, h2, h3, h⟩ | ⟨h0, h1, h2, h3, h4, h⟩ | ⟨h0, h1, h2, h3, h4, h5, h⟩ | ⟨h0, h1, h2, h3, h4, h5, h6, h⟩ | ⟨h0, h1, h2, h3, h4, h5, h6, h7, h⟩ | ⟨h0, h1, h2, h3, h4, h5, h6, h7, h8, h⟩ | h
  · have g0 : (b.length == 0) = true := by simpa using h
    (go_enter Tryz.func3, Tryz.ntmps3; go_wp2_with fail; refine (path_no w).mono ?_; rintro e w1 ⟨rfl, hb⟩; have HB1 := hide hb; clear hb)
    go_wp2
    go_ret
    exact ⟨rfl, HB1.out⟩
  · have g0 : (b.length == 0) = false := by simp only [beq_eq_false_iff_ne, ne_eq]; omega
    have k1 : ¬ b.length = 0 := by omega
    have k2 : ((b.length : Int) == 0) = false := by simp only [beq_eq_false_iff_ne, ne_eq]; omega
    have k3 : ¬ b = [] := by rintro rfl; exact k1 rfl
    have k4 : ¬ (b.length : Int) = 0 := by omega
    have g1 : (6 : Int) < (b.length : Int) := by omega
    (go_enter Tryz.func3, Tryz.ntmps3; go_wp2_with fail; refine (path_no w).mono ?_; rintro e w1 ⟨rfl, hb⟩; have HB1 := hide hb; clear hb)
    go_wp2
    go_ret
    exact ⟨rfl, HB1.out⟩
  · have g0 : (b.length == 0) = false := by simp only [beq_eq_false_iff_ne, ne_eq]; omega
    have k1 : ¬ b.length = 0 := by omega
    have k2 : ((b.length : Int) == 0) = false := by simp only [beq_eq_false_iff_ne, ne_eq]; omega
    have k3 : ¬ b = [] := by rintro rfl; exact k1 rfl
    have k4 : ¬ (b.length : Int) = 0 := by omega
    have g1 : ¬ (6 : Int) < (b.length : Int) := by omega
    have g2 : (20 : Int) < (l.length : Int) := by omega
    (go_enter Tryz.func3, Tryz.ntmps3; go_wp2_with fail; refine (path_no w).mono ?_; rintro e w1 ⟨rfl, hb⟩; have HB1 := hide hb; clear hb)
    go_wp2
    go_ret
    exact ⟨rfl, HB1.out⟩
  · have g0 : (b.length == 0) = false := by simp only [beq_eq_false_iff_ne, ne_eq]; omega
    have k1 : ¬ b.length = 0 := by omega
    have k2 : ((b.length : Int) == 0) = false := by simp only [beq_eq_false_iff_ne, ne_eq]; omega
    have k3 : ¬ b = [] := by rintro rfl; exact k1 rfl
    have k4 : ¬ (b.length : Int) = 0 := by omega
    have g1 : ¬ (6 : Int) < (b.length : Int) := by omega
    have g2 : ¬ (20 : Int) < (l.length : Int) := by omega
    have g3 : (chk 400 b l == 0) = false := by simpa using h
    have g4 : (chk 400 b l != 0) = true := by simpa using h
    generalize chk 400 b l = z at *
    (go_enter Tryz.func3, Tryz.ntmps3; go_wp2_with fail; refine (path_no w).mono ?_; rintro e w1 ⟨rfl, hb⟩; have HB1 := hide hb; clear hb)
    go_wp2_with fail
    refine (K5.out _ HB1.out).mono ?_
    rintro e w2 ⟨rfl, hb2⟩
    have HB2 := hide (kcall HB1.out hb2)
    go_wp2
    go_ret
    exact ⟨rfl, HB2.out⟩
  case inr.inr.inr.inr.inr.inr.inr.inr.inr.inr => exact absurd h hN
  all_goals
    have g0 : (b.length == 0) = false := by simp only [beq_eq_false_iff_ne, ne_eq]; omega
    have k1 : ¬ b.length = 0 := by omega
    have k2 : ((b.length : Int) == 0) = false := by simp only [beq_eq_false_iff_ne, ne_eq]; omega
    have k3 : ¬ b = [] := by rintro rfl; exact k1 rfl
    have k4 : ¬ (b.length : Int) = 0 := by omega
    have g1 : ¬ (6 : Int) < (b.length : Int) := by omega
    have g2 : ¬ (20 : Int) < (l.length : Int) := by omega
    rw [h3] at K5
    clear h3 hN
  · have g5 : at_ < 0 := h
    (go_enter Tryz.func3, Tryz.ntmps3; go_wp2_with fail; refine (path_no w).mono ?_; rintro e w1 ⟨rfl, hb⟩; have HB1 := hide hb; clear hb)
    go_wp2_with fail
    refine (K5.out _ HB1.out).mono ?_
    rintro e w2 ⟨rfl, hb2⟩
    have HB2 := hide (kcall HB1.out hb2)
    go_wp2
    go_ret
    exact ⟨rfl, HB2.out⟩
  · have g5 : ¬ at_ < 0 := by omega
    have g6 : (549755813888 : Int) ≤ at_ := h
    (go_enter Tryz.func3, Tryz.ntmps3; go_wp2_with fail; refine (path_no w).mono ?_; rintro e w1 ⟨rfl, hb⟩; have HB1 := hide hb; clear hb)
    go_wp2_with fail
    refine (K5.out _ HB1.out).mono ?_
    rintro e w2 ⟨rfl, hb2⟩
    have HB2 := hide (kcall HB1.out hb2)
    go_wp2
    go_ret
    exact ⟨rfl, HB2.out⟩
  · have g5 : ¬ at_ < 0 := by omega
    have g6 : ¬ (549755813888 : Int) ≤ at_ := by omega
    have g7 : known < 0 := h
    (go_enter Tryz.func3, Tryz.ntmps3; go_wp2_with fail; refine (path_no w).mono ?_; rintro e w1 ⟨rfl, hb⟩; have HB1 := hide hb; clear hb)
    go_wp2_with fail
    refine (K5.out _ HB1.out).mono ?_
    rintro e w2 ⟨rfl, hb2⟩
    have HB2 := hide (kcall HB1.out hb2)
    go_wp2
    go_ret
    exact ⟨rfl, HB2.out⟩
  · have g5 : ¬ at_ < 0 := by omega
    have g6 : ¬ (549755813888 : Int) ≤ at_ := by omega
    have g7 : ¬ known < 0 := by omega
    have g8 : (1099511627776 : Int) ≤ known := h
    (go_enter Tryz.func3, Tryz.ntmps3; go_wp2_with fail; refine (path_no w).mono ?_; rintro e w1 ⟨rfl, hb⟩; have HB1 := hide hb; clear hb)
    go_wp2_with fail
    refine (K5.out _ HB1.out).mono ?_
    rintro e w2 ⟨rfl, hb2⟩
    have HB2 := hide (kcall HB1.out hb2)
    go_wp2
    go_ret
    exact ⟨rfl, HB2.out⟩
  · have g5 : ¬ at_ < 0 := by omega
    have g6 : ¬ (549755813888 : Int) ≤ at_ := by omega
    have g7 : ¬ known < 0 := by omega
    have g8 : ¬ (1099511627776 : Int) ≤ known := by omega
    have g9 : (m == b.length) = false := by simpa using h
    have gA : (m != b.length) = true := by simpa using h
    have gB : ((m : Int) == (b.length : Int)) = false := by simp only [beq_eq_false_iff_ne, ne_eq]; omega
    (go_enter Tryz.func3, Tryz.ntmps3; go_wp2_with fail; refine (path_no w).mono ?_; rintro e w1 ⟨rfl, hb⟩; have HB1 := hide hb; clear hb)
    go_wp2_with fail
    refine (K5.out _ HB1.out).mono ?_
    rintro e w2 ⟨rfl, hb2⟩
    have HB2 := hide (kcall HB1.out hb2)
    go_wp2
    go_ret
    exact ⟨rfl, HB2.out⟩
  · have g5 : ¬ at_ < 0 := by omega
    have g6 : ¬ (549755813888 : Int) ≤ at_ := by omega
    have g7 : ¬ known < 0 := by omega
    have g8 : ¬ (1099511627776 : Int) ≤ known := by omega
    have g9 : (n == b.length) = false := by simpa using h
    have gA : (n != b.length) = true := by simpa using h
    have gB : ((n : Int) == (b.length : Int)) = false := by simp only [beq_eq_false_iff_ne, ne_eq]; omega
    subst h8
    (go_enter Tryz.func3, Tryz.ntmps3; go_wp2_with fail; refine (path_no w).mono ?_; rintro e w1 ⟨rfl, hb⟩; have HB1 := hide hb; clear hb)
    go_wp2_with fail
    refine (K5.out _ HB1.out).mono ?_
    rintro e w2 ⟨rfl, hb2⟩
    have HB2 := hide (kcall HB1.out hb2)
    go_wp2
    go_ret
    exact ⟨rfl, HB2.out⟩
end Go.Proofs.YtnngemgfochodaaGreat

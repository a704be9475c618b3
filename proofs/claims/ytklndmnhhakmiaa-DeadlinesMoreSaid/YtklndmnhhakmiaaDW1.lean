/-
  deadlines: times, few.
-/
import Derived.Test.YtklndmnhhakmiaaBM6
namespace Go.Proofs.Ytklndmnhhakmiaa
open Go.RowKit Go.Mine Go.Mine.B
attribute [local go_sem] Oper.semAt_some
theorem times31 (C : Option Addr) (f : Nat) (ts : List Int) (w : World) (hC : Sl ic 1 w C f ts) :
    Calls Try.prog 31 #[.slice C ts.length f] w fun e w' => e = .returned (.bool (ts.all timeB)) ∧ w = w' := by
  have hlf := hC.le
  have hcf := hC.max
  have HE := hide (show ts.all timeB = (ts.drop 0).all timeB from rfl)
  generalize ts.all timeB = R at HE ⊢
  have HC := hide hC
  clear hC
  go_enter Try.func31, Try.ntmps31
  go_wp2
  go_loop [4, 7] (fun _ i => ∃ k : Nat, k ≤ ts.length ∧ i = .int .i64 k ∧ Hid (R = (ts.drop k).all timeB)) (fun _ i => ts.length - (nI i).toNat)
  case atStart => exact ⟨0, Nat.zero_le _, rfl, HE⟩
  case round =>
    obtain ⟨k, hk, rfl, HQ⟩ := hrel
    by_cases hlt : k < ts.length
    · obtain ⟨x, bb, off, hx, hdr, rfl, hbw, c1⟩ := Sl.ic_at HC.out hlt
      have hq := HQ.out
      rw [hdr, List.all_cons] at hq
      have HX := hide (timeB_iff (t := x))
      have HQ2 := hide hq
      clear hq HQ hx hdr HE
      rcases Bool.eq_false_or_eq_true (timeB x) with ht | ht
      · have hx1 := HX.out.1 ht
        have g1 : decide (x < 0) = false := by simp; omega
        have g2 : decide (1099511627776 ≤ x) = false := by simp; omega
        have HQ3 := hide (HQ2.out.trans (by rw [ht, Bool.true_and]))
        clear ht hx1 HQ2 HX
        go_wp2
        go_round
        case rel => exact ⟨k + 1, by omega, by go_num, HQ3⟩
        case measure => simp [nI]; omega
      · have HQ3 := hide (HQ2.out.trans (by rw [ht, Bool.false_and]))
        by_cases hx0 : x < 0
        · have g1 : decide (x < 0) = true := by simpa using hx0
          clear ht HQ2 HX
          go_wp2
          go_ret
          exact ⟨ret_bool HQ3.out.symm, rfl⟩
        · have g1 : decide (x < 0) = false := by simpa using hx0
          have g2 : decide (1099511627776 ≤ x) = true := by
            have : ¬ (0 ≤ x ∧ x < 1099511627776) := fun h => by have := HX.out.2 h; rw [ht] at this; cases this
            simp; omega
          clear ht HQ2 HX
          go_wp2
          go_ret
          exact ⟨ret_bool HQ3.out.symm, rfl⟩
    · have hq := HQ.out
      rw [List.drop_of_length_le (by omega), List.all_nil] at hq
      have HQ2 := hide hq
      clear hq HQ HE HC
      go_wp2
      go_ret
      exact ⟨ret_bool HQ2.out.symm, rfl⟩
theorem times56 (C : Option Addr) (f : Nat) (ts : List Int) (w : World) (hC : Sl ic 1 w C f ts) :
    Calls Try.prog 56 #[.slice C ts.length f] w fun e w' => e = .returned (.bool (ts.all timeB)) ∧ w = w' := by
  have hlf := hC.le
  have hcf := hC.max
  have HE := hide (show ts.all timeB = (ts.drop 0).all timeB from rfl)
  generalize ts.all timeB = R at HE ⊢
  have HC := hide hC
  clear hC
  go_enter Try.func56, Try.ntmps56
  go_wp2
  go_loop [4, 7] (fun _ i => ∃ k : Nat, k ≤ ts.length ∧ i = .int .i64 k ∧ Hid (R = (ts.drop k).all timeB)) (fun _ i => ts.length - (nI i).toNat)
  case atStart => exact ⟨0, Nat.zero_le _, rfl, HE⟩
  case round =>
    obtain ⟨k, hk, rfl, HQ⟩ := hrel
    by_cases hlt : k < ts.length
    · obtain ⟨x, bb, off, hx, hdr, rfl, hbw, c1⟩ := Sl.ic_at HC.out hlt
      have hq := HQ.out
      rw [hdr, List.all_cons] at hq
      have HX := hide (timeB_iff (t := x))
      have HQ2 := hide hq
      clear hq HQ hx hdr HE
      rcases Bool.eq_false_or_eq_true (timeB x) with ht | ht
      · have hx1 := HX.out.1 ht
        have g1 : decide (x < 0) = false := by simp; omega
        have g2 : decide (1099511627776 ≤ x) = false := by simp; omega
        have HQ3 := hide (HQ2.out.trans (by rw [ht, Bool.true_and]))
        clear ht hx1 HQ2 HX
        go_wp2
        go_round
        case rel => exact ⟨k + 1, by omega, by go_num, HQ3⟩
        case measure => simp [nI]; omega
      · have HQ3 := hide (HQ2.out.trans (by rw [ht, Bool.false_and]))
        by_cases hx0 : x < 0
        · have g1 : decide (x < 0) = true := by simpa using hx0
          clear ht HQ2 HX
          go_wp2
          go_ret
          exact ⟨ret_bool HQ3.out.symm, rfl⟩
        · have g1 : decide (x < 0) = false := by simpa using hx0
          have g2 : decide (1099511627776 ≤ x) = true := by
            have : ¬ (0 ≤ x ∧ x < 1099511627776) := fun h => by have := HX.out.2 h; rw [ht] at this; cases this
            simp; omega
          clear ht HQ2 HX
          go_wp2
          go_ret
          exact ⟨ret_bool HQ3.out.symm, rfl⟩
    · have hq := HQ.out
      rw [List.drop_of_length_le (by omega), List.all_nil] at hq
      have HQ2 := hide hq
      clear hq HQ HE HC
      go_wp2
      go_ret
      exact ⟨ret_bool HQ2.out.symm, rfl⟩
theorem time59 (t : Int) (w : World) : Calls Try.prog 59 #[.int .i64 t] w fun e w' => e = .returned (.bool (timeB t)) ∧ w = w' := by
  have HX := hide (timeB_iff (t := t))
  generalize timeB t = r at *
  by_cases h0 : 0 ≤ t
  · have g1 : decide (0 ≤ t) = true := by simpa using h0
    by_cases h1 : t < 1099511627776
    · have g2 : decide (t < 1099511627776) = true := by simpa using h1
      have hr := hide (HX.out.2 ⟨h0, h1⟩)
      clear HX h0 h1
      go_enter Try.func59, Try.ntmps59
      go_wp2
      go_ret
      exact ⟨ret_bool hr.out.symm, rfl⟩
    · have g2 : decide (t < 1099511627776) = false := by simpa using h1
      have hr := hide (show r = false by cases r; rfl; exact absurd (HX.out.1 rfl).2 h1)
      clear HX h0 h1
      go_enter Try.func59, Try.ntmps59
      go_wp2
      go_ret
      exact ⟨ret_bool hr.out.symm, rfl⟩
  · have g1 : decide (0 ≤ t) = false := by simpa using h0
    have hr := hide (show r = false by cases r; rfl; exact absurd (HX.out.1 rfl).1 h0)
    clear HX h0
    go_enter Try.func59, Try.ntmps59
    go_wp2
    go_ret
    exact ⟨ret_bool hr.out.symm, rfl⟩
def fewD (b : List Bu) (l : List Tr) : Bool := decide (b.length ≤ 32) && (decide (l.length ≤ 40) && decide (chk 400 b l = 0))
theorem few30 (A B : Option Addr) (c d : Nat) (b : List Bu) (l : List Tr) (w : World) (hS : Sl buC 5 w A c b) (hT : Sl trC 7 w B d l) :
    Calls Try.prog 30 #[.slice A b.length c, .slice B l.length d] w fun e w' => e = .returned (.bool (fewD b l)) ∧ Below w.heap.size w w' := by
  have K := hide (check19 A c b B d l w hS hT)
  have HE := hide (show fewD b l = (decide (b.length ≤ 32) && (decide (l.length ≤ 40) && decide (chk 400 b l = 0))) from rfl)
  generalize fewD b l = R at HE ⊢
  generalize chk 400 b l = z at *
  clear hS hT
  by_cases h1 : b.length ≤ 32
  · by_cases h2 : l.length ≤ 40
    · by_cases h3 : z = 0
      · subst h3
        go_enter Try.func30, Try.ntmps30
        go_wp2_with (refine K.out.mono ?_; rintro e w1 ⟨rfl, hb⟩)
        go_ret
        exact ⟨ret_bool (by rw [HE.out]; simp [h1, h2]), hb⟩
      · have gz : (z == 0) = false := by simpa using h3
        have HZ := hide h3
        clear h3
        go_enter Try.func30, Try.ntmps30
        go_wp2_with (refine K.out.mono ?_; rintro e w1 ⟨rfl, hb⟩)
        go_ret
        exact ⟨ret_bool (by rw [HE.out]; simp [HZ.out]), hb⟩
    · go_enter Try.func30, Try.ntmps30
      go_wp2
      go_ret
      exact ⟨ret_bool (by rw [HE.out]; first | (simp [h2]; done) | (simp [h2]; omega)), Below.refl _ _⟩
  · go_enter Try.func30, Try.ntmps30
    go_wp2
    go_ret
    exact ⟨ret_bool (by rw [HE.out]; first | (simp [h1]; done) | (simp [h1]; omega)), Below.refl _ _⟩
end Go.Proofs.Ytklndmnhhakmiaa

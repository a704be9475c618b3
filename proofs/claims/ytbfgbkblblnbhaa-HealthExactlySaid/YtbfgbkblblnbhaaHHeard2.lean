/-
  Layer 24: Heard, by the program and by the reference; Few, right.
-/
import Derived.Test.YtbfgbkblblnbhaaHHeard
import Derived.Test.YtbfgbkblblnbhaaHRef
namespace Go.Proofs.Ytbfgbkblblnbhaa
open Go.RowKit Go.Mine Go.Mine.H

def fewB (l : List Beat) : Bool := decide (l.length ≤ 40) || (decide (4090 ≤ l.length) && decide (l.length ≤ 4100))
def rightB (l : List Beat) : Bool := decide (l.length ≤ 40) && (chk l == 0)

theorem few_any (A : Option Addr) (c : Nat) (l : List Beat) (w : World) (hS : Sl bc 2 w A c l) :
    Calls Try.prog 16 #[.slice A l.length c] w fun e w' => e = .returned (.bool (fewB l)) ∧ w = w' := by
  have hlc := hS.le
  have hc := hS.max
  clear hS
  by_cases h1 : l.length ≤ 40
  · have g1 : decide ((l.length : Int) ≤ 40) = true := by simp; omega
    go_enter Try.func16, Try.ntmps16
    go_wp2
    go_ret
    exact ⟨ret_bool (by simp [fewB, h1]), rfl⟩
  · have g1 : decide ((l.length : Int) ≤ 40) = false := by simp; omega
    by_cases h2 : 4090 ≤ l.length
    · have g2 : decide ((4090 : Int) ≤ l.length) = true := by simp; omega
      by_cases h3 : l.length ≤ 4100
      · have g3 : decide ((l.length : Int) ≤ 4100) = true := by simp; omega
        go_enter Try.func16, Try.ntmps16
        go_wp2
        go_ret
        exact ⟨ret_bool (by simp [fewB, h2, h3]), rfl⟩
      · have g3 : decide ((l.length : Int) ≤ 4100) = false := by simp; omega
        go_enter Try.func16, Try.ntmps16
        go_wp2
        go_ret
        exact ⟨ret_bool (by simp [fewB, h1, h3]), rfl⟩
    · have g2 : decide ((4090 : Int) ≤ l.length) = false := by simp; omega
      go_enter Try.func16, Try.ntmps16
      go_wp2
      go_ret
      exact ⟨ret_bool (by simp [fewB, h1, h2]), rfl⟩

theorem right_any (A : Option Addr) (c : Nat) (l : List Beat) (w : World) (hS : Sl bc 2 w A c l) :
    Calls Try.prog 27 #[.slice A l.length c] w fun e w' => e = .returned (.bool (rightB l)) ∧ Below w.heap.size w w' := by
  have hlc := hS.le
  have hc := hS.max
  by_cases h1 : l.length ≤ 40
  · have g1 : decide ((l.length : Int) ≤ 40) = true := by simp; omega
    have E := hide (show rightB l = (chk l == 0) by simp [rightB, h1])
    go_enter Try.func27, Try.ntmps27
    go_wp2_with (go_at_call 20; refine (refCheck_any A c l _ hS).mono ?_; rintro e w' ⟨rfl, hb⟩)
    go_ret
    exact ⟨ret_bool (by rw [E.out]), hb⟩
  · have g1 : decide ((l.length : Int) ≤ 40) = false := by simp; omega
    go_enter Try.func27, Try.ntmps27
    go_wp2
    go_ret
    exact ⟨ret_bool (by simp [rightB, h1]), Below.refl _ _⟩

def isB (n q t : Int) (x : Beat) : Bool := (x.1 == n) && (decide (x.2 ≤ t) && decide (t - q < x.2))

set_option maxHeartbeats 1000000 in
theorem refIs_any (A : Option Addr) (c : Nat) (l : List Beat) (n q t : Int) (w : World) (hS : Sl bc 2 w A c l) (ht : 0 ≤ t ∧ t ≤ 1099511627775) (hq : 1 ≤ q ∧ q ≤ 1073741824) :
    Calls Try.prog 54 #[.slice A l.length c, .int .i64 n, .int .i64 q, .int .i64 t] w fun e w' => e = .returned (.bool (isIn l n q t)) ∧ w = w' := by
  have hlc := hS.le
  have hc := hS.max
  obtain ⟨t1, t2⟩ := ht
  obtain ⟨q1, q2⟩ := hq
  go_enter Try.func54, Try.ntmps54
  go_wp2
  go_loop [9] (fun i => ∃ (k : Nat), k ≤ l.length ∧ i = .int .i64 k ∧ (l.drop k).any (isB n q t) = isIn l n q t) (fun i => l.length - (intOf i).toNat)
  case atStart => exact ⟨0, Nat.zero_le _, rfl, rfl⟩
  case round =>
    obtain ⟨k, hk, rfl, hany⟩ := hrel
    by_cases hlt : k < l.length
    · obtain ⟨x, b, off, hx, hdr, rfl, hbw, c1, c2⟩ := Sl.two hS (Below.refl _ _) hlt
      rw [hdr, List.any_cons] at hany
      clear hdr hx
      by_cases h : isB n q t x = true
      · rw [h, Bool.true_or] at hany
        have H := hide hany
        simp only [isB, Bool.and_eq_true, decide_eq_true_eq] at h
        obtain ⟨e1, e2, e3⟩ := h
        clear hany
        go_wp2
        go_ret
        exact ⟨ret_bool H.out, rfl⟩
      · have hf : isB n q t x = false := by simpa using h
        rw [hf, Bool.false_or] at hany
        have H := hide hany
        clear hany h
        by_cases e1 : x.1 = n
        · have g1 : (x.1 == n) = true := by simp [e1]
          by_cases e2 : x.2 ≤ t
          · have e3 : ¬ (t - q < x.2) := by intro h3; simp [isB, e1, e2, h3] at hf
            clear hf e1
            go_wp2
            go_round
            case rel => exact ⟨k + 1, by omega, by go_num, H.out⟩
            case measure => simp [intOf]; omega
          · clear hf e1
            go_wp2
            go_round
            case rel => exact ⟨k + 1, by omega, by go_num, H.out⟩
            case measure => simp [intOf]; omega
        · have g1 : (x.1 == n) = false := by simp [e1]
          clear hf e1
          go_wp2
          go_round
          case rel => exact ⟨k + 1, by omega, by go_num, H.out⟩
          case measure => simp [intOf]; omega
    · rw [List.drop_of_length_le (by omega)] at hany
      have H := hide hany
      clear hany
      go_wp2
      go_ret
      exact ⟨ret_bool H.out, rfl⟩
end Go.Proofs.Ytbfgbkblblnbhaa

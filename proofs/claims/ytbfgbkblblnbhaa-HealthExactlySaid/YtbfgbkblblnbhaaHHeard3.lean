/-
  Layer 24: Heard, by the program and by the reference.
-/
import Derived.Test.YtbfgbkblblnbhaaHHeard2
namespace Go.Proofs.Ytbfgbkblblnbhaa
open Go.RowKit Go.Mine Go.Mine.H

def heardV (l : List Beat) (n q t : Int) : Value := .tuple #[.bool (heardR l n q t).1, .int .i64 (heardR l n q t).2]

theorem heardV_bad (l : List Beat) (n q t : Int) (h : chk l ≠ 0) : heardV l n q t = .tuple #[.bool false, .int .i64 (chk l)] := by simp [heardV, heardR, h]
theorem heardV_args (l : List Beat) (n q t : Int) (h : chk l = 0) (h2 : (withinB n 0 15 && withinB q 1 1073741824 && withinB t 0 1099511627775) = false) : heardV l n q t = .tuple #[.bool false, .int .i64 1] := by
  unfold heardV heardR argsOk; rw [if_pos h, h2]; rfl
theorem heardV_ok (l : List Beat) (n q t : Int) (h : chk l = 0) (h2 : (withinB n 0 15 && withinB q 1 1073741824 && withinB t 0 1099511627775) = true) : heardV l n q t = .tuple #[.bool (isIn l n q t), .int .i64 0] := by
  unfold heardV heardR argsOk; rw [if_pos h, h2]; rfl
theorem fineV_bad (l : List Beat) (fine : Bool) (h : chk l ≠ 0) : (if chk l = 0 then if fine = true then (0 : Int) else 1 else chk l) = chk l := by simp [h]
theorem fineV_false (l : List Beat) (h : chk l = 0) : (if chk l = 0 then if false = true then (0 : Int) else 1 else chk l) = 1 := by simp [h]
theorem fineV_true (l : List Beat) (h : chk l = 0) : (if chk l = 0 then if true = true then (0 : Int) else 1 else chk l) = 0 := by simp [h]
theorem checkF_bad (A : Option Addr) (c : Nat) (l : List Beat) (fine : Bool) (w : World) (hS : Sl bc 2 w A c l) (h : chk l ≠ 0) :
    Calls Try.prog 47 #[.slice A l.length c, .bool fine] w fun e w' => e = .returned (.int .i64 (chk l)) ∧ Below w.heap.size w w' :=
  (checkF_any A c l fine w hS).mono fun _ _ hh => ⟨by rw [hh.1, fineV_bad l fine h], hh.2⟩
theorem checkF_false (A : Option Addr) (c : Nat) (l : List Beat) (w : World) (hS : Sl bc 2 w A c l) (h : chk l = 0) :
    Calls Try.prog 47 #[.slice A l.length c, .bool false] w fun e w' => e = .returned (.int .i64 1) ∧ Below w.heap.size w w' :=
  (checkF_any A c l false w hS).mono fun _ _ hh => ⟨by rw [hh.1, fineV_false l h], hh.2⟩
theorem checkF_true (A : Option Addr) (c : Nat) (l : List Beat) (w : World) (hS : Sl bc 2 w A c l) (h : chk l = 0) :
    Calls Try.prog 47 #[.slice A l.length c, .bool true] w fun e w' => e = .returned (.int .i64 0) ∧ Below w.heap.size w w' :=
  (checkF_any A c l true w hS).mono fun _ _ hh => ⟨by rw [hh.1, fineV_true l h], hh.2⟩

theorem Heard_any (A : Option Addr) (c : Nat) (l : List Beat) (n q t : Int) (w : World) (hS : Sl bc 2 w A c l) :
    Calls Try.prog 17 #[.slice A l.length c, .int .i64 n, .int .i64 q, .int .i64 t] w fun e w' => e = .returned (heardV l n q t) ∧ Below w.heap.size w w' := by
  by_cases hz : chk l = 0
  · by_cases hc : (withinB n 0 15 && withinB q 1 1073741824 && withinB t 0 1099511627775) = true
    · have E := hide (heardV_ok l n q t hz hc)
      simp only [Bool.and_eq_true] at hc
      obtain ⟨⟨h1, h2⟩, h3⟩ := hc
      have ht := (withinB_iff _ _ _).1 h3
      have hso := chk_sorted l hz
      have HI := hide (heardIn_eq l n q t hso.2.2)
      have K47 := hide (fun w (hS : Sl bc 2 w A c l) => checkF_true A c l w hS hz)
      have K51 := hide (fun w (hS : Sl bc 2 w A c l) => heard_any A c l n q t w hS (fun x hx => ⟨(hso.2.1 x hx).1, (hso.2.1 x hx).2.1⟩) ⟨by omega, by omega⟩)
      clear hz hso ht
      go_enter Try.func17, Try.ntmps17
      go_wp2_with (first | (go_at_call 48; refine (isSource_any _ _).mono ?_; rintro e w' ⟨rfl, rfl⟩) | (go_at_call 49; refine (within_any _ _ _ _).mono ?_; rintro e w' ⟨rfl, rfl⟩) | (go_at_call 50; refine (isTime_any _ _).mono ?_; rintro e w' ⟨rfl, rfl⟩) | (go_at_call 47; refine (K47.out _ hS).mono ?_; rintro e w1 ⟨rfl, hb1⟩) | (go_at_call 51; refine (K51.out _ (hS.bel hb1)).mono ?_; rintro e w2 ⟨rfl, hb2⟩))
      go_ret2
      exact ⟨by rw [E.out, ← HI.out]; rfl, hb1.trans (hb2.mono hb1.size)⟩
    · have hcf : (withinB n 0 15 && withinB q 1 1073741824 && withinB t 0 1099511627775) = false := by simpa using hc
      have E := hide (heardV_args l n q t hz hcf)
      have K47 := hide (fun w (hS : Sl bc 2 w A c l) => checkF_false A c l w hS hz)
      clear hz hc
      by_cases h1 : withinB n 0 15 = true
      · by_cases h2 : withinB q 1 1073741824 = true
        · have h3 : withinB t 0 1099511627775 = false := by simpa [h1, h2] using hcf
          clear hcf
          go_enter Try.func17, Try.ntmps17
          go_wp2_with (first | (go_at_call 48; refine (isSource_any _ _).mono ?_; rintro e w' ⟨rfl, rfl⟩) | (go_at_call 49; refine (within_any _ _ _ _).mono ?_; rintro e w' ⟨rfl, rfl⟩) | (go_at_call 50; refine (isTime_any _ _).mono ?_; rintro e w' ⟨rfl, rfl⟩) | (go_at_call 47; refine (K47.out _ hS).mono ?_; rintro e w1 ⟨rfl, hb1⟩))
          go_ret2
          exact ⟨by rw [E.out]; rfl, hb1⟩
        · have h2' : withinB q 1 1073741824 = false := by simpa using h2
          clear hcf h2
          go_enter Try.func17, Try.ntmps17
          go_wp2_with (first | (go_at_call 48; refine (isSource_any _ _).mono ?_; rintro e w' ⟨rfl, rfl⟩) | (go_at_call 49; refine (within_any _ _ _ _).mono ?_; rintro e w' ⟨rfl, rfl⟩) | (go_at_call 50; refine (isTime_any _ _).mono ?_; rintro e w' ⟨rfl, rfl⟩) | (go_at_call 47; refine (K47.out _ hS).mono ?_; rintro e w1 ⟨rfl, hb1⟩))
          go_ret2
          exact ⟨by rw [E.out]; rfl, hb1⟩
      · have h1' : withinB n 0 15 = false := by simpa using h1
        clear hcf h1
        go_enter Try.func17, Try.ntmps17
        go_wp2_with (first | (go_at_call 48; refine (isSource_any _ _).mono ?_; rintro e w' ⟨rfl, rfl⟩) | (go_at_call 49; refine (within_any _ _ _ _).mono ?_; rintro e w' ⟨rfl, rfl⟩) | (go_at_call 50; refine (isTime_any _ _).mono ?_; rintro e w' ⟨rfl, rfl⟩) | (go_at_call 47; refine (K47.out _ hS).mono ?_; rintro e w1 ⟨rfl, hb1⟩))
        go_ret2
        exact ⟨by rw [E.out]; rfl, hb1⟩
  · have E := hide (heardV_bad l n q t hz)
    have hn : (chk l != 0) = true := by simp [hz]
    have K47 := hide (fun fine w (hS : Sl bc 2 w A c l) => checkF_bad A c l fine w hS hz)
    clear hz
    go_enter Try.func17, Try.ntmps17
    go_wp2_with (first | (go_at_call 48; refine (isSource_any _ _).mono ?_; rintro e w' ⟨rfl, rfl⟩) | (go_at_call 49; refine (within_any _ _ _ _).mono ?_; rintro e w' ⟨rfl, rfl⟩) | (go_at_call 50; refine (isTime_any _ _).mono ?_; rintro e w' ⟨rfl, rfl⟩) | (go_at_call 47; refine (K47.out _ _ hS).mono ?_; rintro e w1 ⟨rfl, hb1⟩))
    all_goals go_ret2
    all_goals exact ⟨by rw [E.out]; rfl, hb1⟩
end Go.Proofs.Ytbfgbkblblnbhaa

/-
  Layer 24: the reference's Heard.
-/
import Derived.Test.YtbfgbkblblnbhaaHHeard3
namespace Go.Proofs.Ytbfgbkblblnbhaa
open Go.RowKit Go.Mine Go.Mine.H

theorem refHeard_any (A : Option Addr) (c : Nat) (l : List Beat) (n q t : Int) (w : World) (hS : Sl bc 2 w A c l) :
    Calls Try.prog 18 #[.slice A l.length c, .int .i64 n, .int .i64 q, .int .i64 t] w fun e w' => e = .returned (heardV l n q t) ∧ Below w.heap.size w w' := by
  have K20 := hide (fun w (hS : Sl bc 2 w A c l) => refCheck_any A c l w hS)
  by_cases hz : chk l = 0
  · have hn : (chk l != 0) = false := by simp [hz]
    by_cases hc : (withinB n 0 15 && withinB q 1 1073741824 && withinB t 0 1099511627775) = true
    · have E := hide (heardV_ok l n q t hz hc)
      simp only [Bool.and_eq_true] at hc
      obtain ⟨⟨h1, h2⟩, h3⟩ := hc
      have ht := (withinB_iff _ _ _).1 h3
      have hq := (withinB_iff _ _ _).1 h2
      have K54 := hide (fun w (hS : Sl bc 2 w A c l) => refIs_any A c l n q t w hS ⟨by omega, by omega⟩ ⟨by omega, by omega⟩)
      clear hz ht hq
      go_enter Try.func18, Try.ntmps18
      go_wp2_with (first | (go_at_call 52; refine (refSource_any _ _).mono ?_; rintro e w' ⟨rfl, rfl⟩) | (go_at_call 53; refine (refMoment_any _ _).mono ?_; rintro e w' ⟨rfl, rfl⟩) | (go_at_call 28; refine (refQuiet_any _ _).mono ?_; rintro e w' ⟨rfl, rfl⟩) | (go_at_call 20; refine (K20.out _ hS).mono ?_; rintro e w1 ⟨rfl, hb1⟩) | (go_at_call 54; refine (K54.out _ (hS.bel hb1)).mono ?_; rintro e w2 ⟨rfl, rfl⟩))
      go_ret2
      exact ⟨by rw [E.out]; rfl, hb1⟩
    · have hcf : (withinB n 0 15 && withinB q 1 1073741824 && withinB t 0 1099511627775) = false := by simpa using hc
      have E := hide (heardV_args l n q t hz hcf)
      clear hz hc
      by_cases h1 : withinB n 0 15 = true
      · by_cases h2 : withinB q 1 1073741824 = true
        · have h3 : withinB t 0 1099511627775 = false := by simpa [h1, h2] using hcf
          clear hcf
          go_enter Try.func18, Try.ntmps18
          go_wp2_with (first | (go_at_call 52; refine (refSource_any _ _).mono ?_; rintro e w' ⟨rfl, rfl⟩) | (go_at_call 53; refine (refMoment_any _ _).mono ?_; rintro e w' ⟨rfl, rfl⟩) | (go_at_call 28; refine (refQuiet_any _ _).mono ?_; rintro e w' ⟨rfl, rfl⟩) | (go_at_call 20; refine (K20.out _ hS).mono ?_; rintro e w1 ⟨rfl, hb1⟩))
          go_ret2
          exact ⟨by rw [E.out]; rfl, hb1⟩
        · have h2' : withinB q 1 1073741824 = false := by simpa using h2
          clear hcf h2
          go_enter Try.func18, Try.ntmps18
          go_wp2_with (first | (go_at_call 52; refine (refSource_any _ _).mono ?_; rintro e w' ⟨rfl, rfl⟩) | (go_at_call 53; refine (refMoment_any _ _).mono ?_; rintro e w' ⟨rfl, rfl⟩) | (go_at_call 28; refine (refQuiet_any _ _).mono ?_; rintro e w' ⟨rfl, rfl⟩) | (go_at_call 20; refine (K20.out _ hS).mono ?_; rintro e w1 ⟨rfl, hb1⟩))
          go_ret2
          exact ⟨by rw [E.out]; rfl, hb1⟩
      · have h1' : withinB n 0 15 = false := by simpa using h1
        clear hcf h1
        go_enter Try.func18, Try.ntmps18
        go_wp2_with (first | (go_at_call 52; refine (refSource_any _ _).mono ?_; rintro e w' ⟨rfl, rfl⟩) | (go_at_call 53; refine (refMoment_any _ _).mono ?_; rintro e w' ⟨rfl, rfl⟩) | (go_at_call 28; refine (refQuiet_any _ _).mono ?_; rintro e w' ⟨rfl, rfl⟩) | (go_at_call 20; refine (K20.out _ hS).mono ?_; rintro e w1 ⟨rfl, hb1⟩))
        go_ret2
        exact ⟨by rw [E.out]; rfl, hb1⟩
  · have E := hide (heardV_bad l n q t hz)
    have hn : (chk l != 0) = true := by simp [hz]
    clear hz
    go_enter Try.func18, Try.ntmps18
    go_wp2_with (go_at_call 20; refine (K20.out _ hS).mono ?_; rintro e w1 ⟨rfl, hb1⟩)
    go_ret2
    exact ⟨by rw [E.out]; rfl, hb1⟩
end Go.Proofs.Ytbfgbkblblnbhaa

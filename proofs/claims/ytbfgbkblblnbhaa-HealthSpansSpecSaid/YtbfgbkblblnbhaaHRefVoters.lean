/-
  Layer 24: Voters, by the reference: the same as by the program.
-/
import Derived.Test.YtbfgbkblblnbhaaHRefSpans
namespace Go.Proofs.Ytbfgbkblblnbhaa
open Go.RowKit Go.Mine Go.Mine.H

theorem refVoters_bad (A : Option Addr) (c : Nat) (l : List Beat) (many q t : Int) (w : World) (hS : Sl bc 2 w A c l) (hne : ((chk l == 0) && argsV many q t) = false) :
    Calls Try.prog 24 #[.slice A l.length c, .int .i64 many, .int .i64 q, .int .i64 t] w fun e w' => e = .returned (.tuple #[.slice none 0 0, .int .i64 (votersE l many q t)]) ∧ Below w.heap.size w w' := by
  have K20 := hide (fun w (hS : Sl bc 2 w A c l) => refCheck_any A c l w hS)
  by_cases hz : chk l = 0
  · have ha : argsV many q t = false := by simpa [hz] using hne
    have E := hide (show votersE l many q t = 1 by simp [votersE, hz, ha])
    rw [hz] at K20
    clear hz hne
    by_cases m1 : many < 1
    · clear ha
      go_enter Try.func24, Try.ntmps24
      go_wp2_with (first | (go_at_call 53; refine (refMoment_any _ _).mono ?_; rintro e w' ⟨rfl, rfl⟩) | (go_at_call 28; refine (refQuiet_any _ _).mono ?_; rintro e w' ⟨rfl, rfl⟩) | (go_at_call 20; refine (K20.out _ hS).mono ?_; rintro e w1 ⟨rfl, hb1⟩))
      go_ret2
      exact ⟨by rw [E.out]; rfl, hb1⟩
    by_cases m2 : 16 < many
    · clear ha
      go_enter Try.func24, Try.ntmps24
      go_wp2_with (first | (go_at_call 53; refine (refMoment_any _ _).mono ?_; rintro e w' ⟨rfl, rfl⟩) | (go_at_call 28; refine (refQuiet_any _ _).mono ?_; rintro e w' ⟨rfl, rfl⟩) | (go_at_call 20; refine (K20.out _ hS).mono ?_; rintro e w1 ⟨rfl, hb1⟩))
      go_ret2
      exact ⟨by rw [E.out]; rfl, hb1⟩
    have hm : withinB many 1 16 = true := by rw [withinB_iff]; omega
    cases h1 : withinB q 1 1073741824
    · clear ha
      go_enter Try.func24, Try.ntmps24
      go_wp2_with (first | (go_at_call 53; refine (refMoment_any _ _).mono ?_; rintro e w' ⟨rfl, rfl⟩) | (go_at_call 28; refine (refQuiet_any _ _).mono ?_; rintro e w' ⟨rfl, rfl⟩) | (go_at_call 20; refine (K20.out _ hS).mono ?_; rintro e w1 ⟨rfl, hb1⟩))
      go_ret2
      exact ⟨by rw [E.out]; rfl, hb1⟩
    · have h2 : withinB t 0 1099511627775 = false := by simpa [argsV, hm, h1] using ha
      clear ha
      go_enter Try.func24, Try.ntmps24
      go_wp2_with (first | (go_at_call 53; refine (refMoment_any _ _).mono ?_; rintro e w' ⟨rfl, rfl⟩) | (go_at_call 28; refine (refQuiet_any _ _).mono ?_; rintro e w' ⟨rfl, rfl⟩) | (go_at_call 20; refine (K20.out _ hS).mono ?_; rintro e w1 ⟨rfl, hb1⟩))
      go_ret2
      exact ⟨by rw [E.out]; rfl, hb1⟩
  · have E := hide (show votersE l many q t = chk l by simp [votersE, hz])
    have hn : (chk l != 0) = true := by simp [hz]
    clear hz hne
    go_enter Try.func24, Try.ntmps24
    go_wp2_with (first | (go_at_call 53; refine (refMoment_any _ _).mono ?_; rintro e w' ⟨rfl, rfl⟩) | (go_at_call 28; refine (refQuiet_any _ _).mono ?_; rintro e w' ⟨rfl, rfl⟩) | (go_at_call 20; refine (K20.out _ hS).mono ?_; rintro e w1 ⟨rfl, hb1⟩))
    go_ret2
    exact ⟨by rw [E.out]; rfl, hb1⟩

theorem range_snoc (f : Nat → Bool) (k : Nat) : (List.range (k + 1)).map f = (List.range k).map f ++ [f k] := by rw [List.range_succ]; simp

set_option maxHeartbeats 2000000 in
theorem refVoters_good (A : Option Addr) (c : Nat) (l : List Beat) (m : Nat) (q t : Int) (w : World) (hS : Sl bc 2 w A c l) (hz : chk l = 0) (ha : argsV (m : Int) q t = true) :
    Calls Try.prog 24 #[.slice A l.length c, .int .i64 m, .int .i64 q, .int .i64 t] w fun e w' => ∃ v, e = .returned (.tuple #[v, .int .i64 0]) ∧ OwnL bb 1 4 w' w.heap.size v ((List.range m).map fun (n : Nat) => isIn l (n : Int) q t) ∧ Below w.heap.size w w' := by
  have ha' := ha
  simp only [argsV, Bool.and_eq_true] at ha'
  obtain ⟨h1, h2, h3⟩ := ha'
  obtain ⟨m1, m2⟩ := (withinB_iff _ _ _).1 h1
  have hq := (withinB_iff _ _ _).1 h2
  have ht := (withinB_iff _ _ _).1 h3
  have K20 := hide (fun w (hS : Sl bc 2 w A c l) => refCheck_any A c l w hS)
  rw [hz] at K20
  have KI := hide (fun n w (hS : Sl bc 2 w A c l) => refIs_any A c l n q t w hS ht hq)
  clear hz ha h1 ht hq
  obtain ⟨i0, hi, hz0, hz1, hz2⟩ := info_parts Try_info4
  have HI := hide hi
  clear hi
  go_enter Try.func24, Try.ntmps24
  go_wp2_with (first | (go_at_call 53; refine (refMoment_any _ _).mono ?_; rintro e w' ⟨rfl, rfl⟩) | (go_at_call 28; refine (refQuiet_any _ _).mono ?_; rintro e w' ⟨rfl, rfl⟩) | (go_at_call 20; refine (K20.out _ hS).mono ?_; rintro e w1 ⟨rfl, hb1⟩))
  go_loopw [11, 12] (fun v i wr => ∃ k : Nat, k ≤ m ∧ i = .int .i64 k ∧ Below w.heap.size w wr ∧ OwnL bb 1 4 wr w.heap.size v ((List.range k).map fun (n : Nat) => isIn l (n : Int) q t)) (fun _ i _ => m - (intOf i).toNat)
  case atStart => exact ⟨0, by omega, rfl, kalloc hb1 _, OwnL.fresh w1 hb1.size⟩
  case round =>
    obtain ⟨k, hk, rfl, hb, hO⟩ := hrel
    clear hb1
    by_cases hlt : k < m
    · have e1 := range_snoc (fun n => isIn l (n : Int) q t) k
      obtain ⟨A2, cp, rfl, -⟩ := hO.sl
      have hlen : ((List.range k).map fun (n : Nat) => isIn l (n : Int) q t).length = k := by simp
      have E1 := hide e1
      have HO := hide hO
      have HL := hide hlen
      have hW := hb.size
      clear e1 hO hlen
      have KI' := hide (KI.out (k : Int))
      generalize isIn l (k : Int) q t = z at E1 KI'
      generalize ((List.range k).map fun (n : Nat) => isIn l (n : Int) q t) = ls at HO HL E1
      go_wp2_with fail
      refine (KI'.out wr (hS.bel hb)).mono ?_
      rintro e w2 ⟨rfl, rfl⟩
      go_wp2_with (at_builtin; refine wpList_push (y := z) rfl (.tmp 40) (.tmp 46) 33 rfl Try.underlying33 HI.out hz0 hz1 hz2 rfl (by decide) rfl (HO.out.alloc _) rfl (heap_new _ _) rfl rfl ?_ ?_ ?_ ?_ ?_)
      · simp [Value.oneCell', bb]
      · have := HL.out; simp only [maxLen]; omega
      · have := HL.out; omega
      · simp; omega
      · intro v' w3 hO2 hgr hat
        have H2 := hide hO2
        have hb2 := Below.grown (kalloc hb _) hgr (by simp; omega) (fun g hg => (HO.out.blk hg).1)
        clear hO2 hgr hat
        go_wp2
        go_roundw
        case rel => exact ⟨k + 1, by omega, by go_num, hb2, by rw [E1.out]; exact H2.out⟩
        case measure => simp [intOf]; omega
    · obtain rfl : k = m := by omega
      have H := hide hO
      clear hO
      go_wp2
      go_ret2
      exact ⟨_, rfl, H.out, hb⟩

theorem refVoters_any (A : Option Addr) (c : Nat) (l : List Beat) (many q t : Int) (w : World) (hS : Sl bc 2 w A c l) :
    Calls Try.prog 24 #[.slice A l.length c, .int .i64 many, .int .i64 q, .int .i64 t] w fun e w' => ∃ A2 c2, e = .returned (.tuple #[.slice A2 (votersL l many q t).length c2, .int .i64 (votersE l many q t)]) ∧ Sl bb 1 w' A2 c2 (votersL l many q t) ∧ Below w.heap.size w w' := by
  by_cases hg : ((chk l == 0) && argsV many q t) = true
  · simp only [Bool.and_eq_true, beq_iff_eq] at hg
    obtain ⟨hz, ha⟩ := hg
    have ha' := ha
    simp only [argsV, Bool.and_eq_true] at ha'
    have hm := (withinB_iff _ _ _).1 ha'.1
    obtain ⟨m, rfl⟩ := Int.eq_ofNat_of_zero_le (show 0 ≤ many by omega)
    refine (refVoters_good A c l m q t w hS hz ha).mono ?_
    rintro e w' ⟨v, rfl, hO, hb⟩
    have hL : votersL l (m : Int) q t = (List.range m).map fun (n : Nat) => isIn l (n : Int) q t := by unfold votersL; rw [if_pos ⟨hz, ha⟩, Int.toNat_natCast]
    have hE : votersE l (m : Int) q t = 0 := by unfold votersE; rw [if_pos hz, if_pos ha]
    obtain ⟨A2, c2, rfl, hs⟩ := hO.sl
    exact ⟨A2, c2, by rw [hL, hE], by rw [hL]; exact hs, hb⟩
  · have hg' : ((chk l == 0) && argsV many q t) = false := by simpa using hg
    refine (refVoters_bad A c l many q t w hS hg').mono ?_
    rintro e w' ⟨rfl, hb⟩
    have hL : votersL l many q t = [] := by
      unfold votersL; rw [if_neg]; rintro ⟨h1, h2⟩; simp [h1, h2] at hg'
    exact ⟨none, 0, by rw [hL]; rfl, by rw [hL]; exact Sl.nil (by omega), hb⟩
end Go.Proofs.Ytbfgbkblblnbhaa

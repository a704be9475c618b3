/-
  HealthMore: its walk, all ways.
-/
import Derived.Test.YtbfgbkblblnbhaaHealthMoreLaw
namespace Go.Proofs.Ytbfgbkblblnbhaa
open Go.RowKit Go.Mine Go.Mine.H

theorem more_bad (A : Option Addr) (c : Nat) (l : List Beat) (x1 x2 q m t : Int) (w : World) (hS : Sl bc 2 w A c l) (h : rightB l = false) : Calls Try.prog 6 #[.slice A l.length c, .agg #[.int .i64 x1, .int .i64 x2], .int .i64 q, .int .i64 m, .int .i64 t] w fun e w' => e = .returned (.bool true) ∧ Below w.heap.size w w' := by
  have K15 := hide sane_any
  have KR := hide (fun w (hS : Sl bc 2 w A c l) => right_any A c l w hS)
  rw [h] at KR
  clear h
  (go_enter Try.func6, Try.ntmps6; go_wp2_with fail; refine (K15.out _).mono ?_; rintro e w1 ⟨rfl, hb⟩; have hB1 := kcall (kalloc (Below.refl w.heap.size w) _) hb; have s1 := (hS.alloc _).bel hb; clear hb; go_wp2_with ((go_at_call 28; refine (refQuiet_any _ _).mono ?_; rintro e w' ⟨rfl, rfl⟩)); refine (KR.out _ s1).mono ?_; rintro e w2 ⟨rfl, hb⟩; have hB2 := kcall hB1 hb; clear hb; go_wp2_with ((go_at_call 28; refine (refQuiet_any _ _).mono ?_; rintro e w' ⟨rfl, rfl⟩)); go_ret; exact ⟨rfl, hB2⟩)
theorem more_q (A : Option Addr) (c : Nat) (l : List Beat) (x1 x2 q m t : Int) (w : World) (hS : Sl bc 2 w A c l) (h : rightB l = true) (hq : withinB q 1 1073741824 = false) : Calls Try.prog 6 #[.slice A l.length c, .agg #[.int .i64 x1, .int .i64 x2], .int .i64 q, .int .i64 m, .int .i64 t] w fun e w' => e = .returned (.bool true) ∧ Below w.heap.size w w' := by
  have K15 := hide sane_any
  have KR := hide (fun w (hS : Sl bc 2 w A c l) => right_any A c l w hS)
  rw [h] at KR
  clear h
  (go_enter Try.func6, Try.ntmps6; go_wp2_with fail; refine (K15.out _).mono ?_; rintro e w1 ⟨rfl, hb⟩; have hB1 := kcall (kalloc (Below.refl w.heap.size w) _) hb; have s1 := (hS.alloc _).bel hb; clear hb; go_wp2_with ((go_at_call 28; refine (refQuiet_any _ _).mono ?_; rintro e w' ⟨rfl, rfl⟩)); refine (KR.out _ s1).mono ?_; rintro e w2 ⟨rfl, hb⟩; have hB2 := kcall hB1 hb; clear hb; go_wp2_with ((go_at_call 28; refine (refQuiet_any _ _).mono ?_; rintro e w' ⟨rfl, rfl⟩)); go_ret; exact ⟨rfl, hB2⟩)
theorem more_m (A : Option Addr) (c : Nat) (l : List Beat) (x1 x2 q m t : Int) (w : World) (hS : Sl bc 2 w A c l) (h : rightB l = true) (hq : withinB q 1 1073741824 = true) (hm : withinB m 1 1073741824 = false) : Calls Try.prog 6 #[.slice A l.length c, .agg #[.int .i64 x1, .int .i64 x2], .int .i64 q, .int .i64 m, .int .i64 t] w fun e w' => e = .returned (.bool true) ∧ Below w.heap.size w w' := by
  have K15 := hide sane_any
  have KR := hide (fun w (hS : Sl bc 2 w A c l) => right_any A c l w hS)
  rw [h] at KR
  clear h
  (go_enter Try.func6, Try.ntmps6; go_wp2_with fail; refine (K15.out _).mono ?_; rintro e w1 ⟨rfl, hb⟩; have hB1 := kcall (kalloc (Below.refl w.heap.size w) _) hb; have s1 := (hS.alloc _).bel hb; clear hb; go_wp2_with ((go_at_call 28; refine (refQuiet_any _ _).mono ?_; rintro e w' ⟨rfl, rfl⟩)); refine (KR.out _ s1).mono ?_; rintro e w2 ⟨rfl, hb⟩; have hB2 := kcall hB1 hb; clear hb; go_wp2_with ((go_at_call 28; refine (refQuiet_any _ _).mono ?_; rintro e w' ⟨rfl, rfl⟩)); go_ret; exact ⟨rfl, hB2⟩)
theorem more_t1 (A : Option Addr) (c : Nat) (l : List Beat) (x1 x2 q m t : Int) (w : World) (hS : Sl bc 2 w A c l) (h : rightB l = true) (hq : withinB q 1 1073741824 = true) (hm : withinB m 1 1073741824 = true) (ht : t < 0) : Calls Try.prog 6 #[.slice A l.length c, .agg #[.int .i64 x1, .int .i64 x2], .int .i64 q, .int .i64 m, .int .i64 t] w fun e w' => e = .returned (.bool true) ∧ Below w.heap.size w w' := by
  have K15 := hide sane_any
  have KR := hide (fun w (hS : Sl bc 2 w A c l) => right_any A c l w hS)
  rw [h] at KR
  clear h
  (go_enter Try.func6, Try.ntmps6; go_wp2_with fail; refine (K15.out _).mono ?_; rintro e w1 ⟨rfl, hb⟩; have hB1 := kcall (kalloc (Below.refl w.heap.size w) _) hb; have s1 := (hS.alloc _).bel hb; clear hb; go_wp2_with ((go_at_call 28; refine (refQuiet_any _ _).mono ?_; rintro e w' ⟨rfl, rfl⟩)); refine (KR.out _ s1).mono ?_; rintro e w2 ⟨rfl, hb⟩; have hB2 := kcall hB1 hb; clear hb; go_wp2_with ((go_at_call 28; refine (refQuiet_any _ _).mono ?_; rintro e w' ⟨rfl, rfl⟩)); go_ret; exact ⟨rfl, hB2⟩)
theorem more_t2 (A : Option Addr) (c : Nat) (l : List Beat) (x1 x2 q m t : Int) (w : World) (hS : Sl bc 2 w A c l) (h : rightB l = true) (hq : withinB q 1 1073741824 = true) (hm : withinB m 1 1073741824 = true) (h0 : ¬ t < 0) (ht : 1099511627776 ≤ t) : Calls Try.prog 6 #[.slice A l.length c, .agg #[.int .i64 x1, .int .i64 x2], .int .i64 q, .int .i64 m, .int .i64 t] w fun e w' => e = .returned (.bool true) ∧ Below w.heap.size w w' := by
  have K15 := hide sane_any
  have KR := hide (fun w (hS : Sl bc 2 w A c l) => right_any A c l w hS)
  rw [h] at KR
  clear h
  (go_enter Try.func6, Try.ntmps6; go_wp2_with fail; refine (K15.out _).mono ?_; rintro e w1 ⟨rfl, hb⟩; have hB1 := kcall (kalloc (Below.refl w.heap.size w) _) hb; have s1 := (hS.alloc _).bel hb; clear hb; go_wp2_with ((go_at_call 28; refine (refQuiet_any _ _).mono ?_; rintro e w' ⟨rfl, rfl⟩)); refine (KR.out _ s1).mono ?_; rintro e w2 ⟨rfl, hb⟩; have hB2 := kcall hB1 hb; clear hb; go_wp2_with ((go_at_call 28; refine (refQuiet_any _ _).mono ?_; rintro e w' ⟨rfl, rfl⟩)); go_ret; exact ⟨rfl, hB2⟩)
theorem healthMore_law (A : Option Addr) (c : Nat) (l : List Beat) (x1 x2 q m t : Int) (w : World) (hS : Sl bc 2 w A c l) : Calls Try.prog 6 #[.slice A l.length c, .agg #[.int .i64 x1, .int .i64 x2], .int .i64 q, .int .i64 m, .int .i64 t] w fun e w' => e = .returned (.bool true) ∧ Below w.heap.size w w' := by
  cases hr : rightB l
  · exact more_bad A c l x1 x2 q m t w hS hr
  cases hq : withinB q 1 1073741824
  · exact more_q A c l x1 x2 q m t w hS hr hq
  cases hm : withinB m 1 1073741824
  · exact more_m A c l x1 x2 q m t w hS hr hq hm
  by_cases h0 : t < 0
  · exact more_t1 A c l x1 x2 q m t w hS hr hq hm h0
  by_cases h1 : t < 1099511627776
  · exact more_in A c l x1 x2 q m t w hS hr hq hm ⟨by omega, h1⟩
  · exact more_t2 A c l x1 x2 q m t w hS hr hq hm h0 (by omega)
end Go.Proofs.Ytbfgbkblblnbhaa

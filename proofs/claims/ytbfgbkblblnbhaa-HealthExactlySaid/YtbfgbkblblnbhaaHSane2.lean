/-
  Layer 24: sane returns true.
-/
import Derived.Test.YtbfgbkblblnbhaaHSane
namespace Go.Proofs.Ytbfgbkblblnbhaa
open Go.RowKit Go.Shelf Go.Mine Go.Mine.H

set_option maxRecDepth 100000 in
set_option maxHeartbeats 4000000 in
theorem sane_any (w : World) :
    Calls Try.prog 15 #[] w fun e w' => e = .returned (.bool true) ∧ Below w.heap.size w w' := by
  have hB0 := Below.refl w.heap.size w
  have hN : (w.heap.size ≤ w.heap.size) := Nat.le_refl _
  go_enter Try.func15, Try.ntmps15
  go_wp2_with fail
  refine (spans_lit _ _ [(0, 10), (0, 15)] 0 5 _ (Sl.lit bc 2 w 41 _ _ 2 (fun _ _ => rfl) rfl rfl (by decide)) [(10, 20)] 0 (by decide) (by decide) 2 rfl).mono ?_
  rintro e w1 ⟨A1, c1, rfl, s1, hb1⟩
  have hB1 := bstep (hB0.alloc hN _) (by simp) hb1
  have hN1 := hB1.size
  clear hb1 hB0
  go_wp2_with fail
  refine (spans_lit _ _ [(3, 10), (3, 16)] 3 5 _ (Sl.lit bc 2 w1 41 _ _ 2 (fun _ _ => rfl) rfl rfl (by decide)) [(10, 15), (16, 21)] 0 (by decide) (by decide) 2 rfl).mono ?_
  rintro e w2 ⟨A2, c2, rfl, s2, hb2⟩
  have hB2 := bstep (hB1.alloc hN1 _) (by simp; omega) hb2
  have hN2 := hB2.size
  have s1 := (s1.alloc _).bel hb2
  clear hb2 hB1
  go_wp2_with fail
  refine (spans_lit _ _ [(0, 1099511627775)] 0 5 _ (Sl.lit bc 2 w2 41 _ _ 1 (fun _ _ => rfl) rfl rfl (by decide)) [(1099511627775, 1099511627776)] 0 (by decide) (by decide) 1 rfl).mono ?_
  rintro e w3 ⟨A3, c3, rfl, s3, hb3⟩
  have hB3 := bstep (hB2.alloc hN2 _) (by simp; omega) hb3
  have hN3 := hB3.size
  have s1 := (s1.alloc _).bel hb3
  have s2 := (s2.alloc _).bel hb3
  clear hb3 hB2
  go_wp2_with fail
  refine (spans_lit none 0 [] 0 1 w3 (Sl.nil (by omega)) [] 0 (by decide) (by decide) 0 rfl).mono ?_
  rintro e w4 ⟨A4, c4, rfl, s4, hb4⟩
  have hB4 := bstep hB3 hN3 hb4
  have hN4 := hB4.size
  have s1 := s1.bel hb4
  have s2 := s2.bel hb4
  have s3 := s3.bel hb4
  clear hb4 hB3 s4
  go_wp2_with fail
  refine (voters_lit _ _ [(1, 10)] 3 5 12 _ (Sl.lit bc 2 w4 41 _ _ 1 (fun _ _ => rfl) rfl rfl (by decide)) [false, true, false] 0 (by decide) (by decide) 1 rfl).mono ?_
  rintro e w5 ⟨A5, c5, rfl, s5, hb5⟩
  have hB5 := bstep (hB4.alloc hN4 _) (by simp; omega) hb5
  have hN5 := hB5.size
  have s1 := (s1.alloc _).bel hb5
  have s2 := (s2.alloc _).bel hb5
  have s3 := (s3.alloc _).bel hb5
  clear hb5 hB4
  go_wp2_with fail
  refine (voters_lit none 0 [] 0 5 12 w5 (Sl.nil (by omega)) [] 1 (by decide) (by decide) 0 rfl).mono ?_
  rintro e w6 ⟨A6, c6, rfl, s6, hb6⟩
  have hB6 := bstep hB5 hN5 hb6
  have hN6 := hB6.size
  have s1 := s1.bel hb6
  have s2 := s2.bel hb6
  have s3 := s3.bel hb6
  have s5 := s5.bel hb6
  clear hb6 hB5 s6
  go_wp2_with fail
  refine (heard_lit none 0 [] 16 5 12 w6 (Sl.nil (by omega)) false 1 (by decide) 0 rfl).mono ?_
  rintro e w7 ⟨rfl, hb7⟩
  have hB7 := bstep hB6 hN6 hb7
  have hN7 := hB7.size
  have s1 := s1.bel hb7
  have s2 := s2.bel hb7
  have s3 := s3.bel hb7
  have s5 := s5.bel hb7
  clear hb7 hB6
  go_wp2_with fail
  refine (heard_lit none 0 [] 0 0 12 w7 (Sl.nil (by omega)) false 1 (by decide) 0 rfl).mono ?_
  rintro e w8 ⟨rfl, hb8⟩
  have hB8 := bstep hB7 hN7 hb8
  have hN8 := hB8.size
  have s1 := s1.bel hb8
  have s2 := s2.bel hb8
  have s3 := s3.bel hb8
  have s5 := s5.bel hb8
  clear hb8 hB7
  go_wp2_with fail
  refine (same_lit _ _ _ _ [(10, 20)] [(10, 20)] _ (s1.alloc _) (Sl.lit bc 2 w8 62 _ _ 1 (fun _ _ => rfl) rfl rfl (by decide)) rfl 1 1 rfl rfl).mono ?_
  rintro e w9 ⟨rfl, hb9⟩
  have hB9 := bstep (hB8.alloc hN8 _) (by simp; omega) hb9
  have hN9 := hB9.size
  have s2 := (s2.alloc _).bel hb9
  have s3 := (s3.alloc _).bel hb9
  have s5 := (s5.alloc _).bel hb9
  clear hb9 hB8 s1
  go_wp2_with fail
  refine (same_lit _ _ _ _ [(10, 15), (16, 21)] [(10, 15), (16, 21)] _ (s2.alloc _) (Sl.lit bc 2 w9 62 _ _ 2 (fun _ _ => rfl) rfl rfl (by decide)) rfl 2 2 rfl rfl).mono ?_
  rintro e w10 ⟨rfl, hb10⟩
  have hB10 := bstep (hB9.alloc hN9 _) (by simp; omega) hb10
  have hN10 := hB10.size
  have s3 := (s3.alloc _).bel hb10
  have s5 := (s5.alloc _).bel hb10
  clear hb10 hB9 s2
  go_wp2_with fail
  refine (same_lit _ _ _ _ [(1099511627775, 1099511627776)] [(1099511627775, 1099511627776)] _ (s3.alloc _) (Sl.lit bc 2 w10 62 _ _ 1 (fun _ _ => rfl) rfl rfl (by decide)) rfl 1 1 rfl rfl).mono ?_
  rintro e w11 ⟨rfl, hb11⟩
  have hB11 := bstep (hB10.alloc hN10 _) (by simp; omega) hb11
  have hN11 := hB11.size
  have s5 := (s5.alloc _).bel hb11
  clear hb11 hB10 s3
  go_wp2_with fail
  refine (sameB_lit _ _ _ _ [false, true, false] [false, true, false] _ (s5.alloc _) (Sl.lit bb 1 w11 4 _ _ 3 (fun _ _ => rfl) rfl rfl (by decide)) rfl 3 3 rfl rfl).mono ?_
  rintro e w12 ⟨rfl, hb12⟩
  have hB12 := bstep (hB11.alloc hN11 _) (by simp; omega) hb12
  have hN12 := hB12.size
  clear hb12 hB11 s5
  go_wp2_with fail
  refine (is_any 9 false w12 (by decide)).mono ?_
  rintro e w13 ⟨rfl, hb13⟩
  have hB13 := bstep hB12 hN12 hb13
  have hN13 := hB13.size
  clear hb13 hB12
  go_wp2_with fail
  refine (is_any 10 true w13 (by decide)).mono ?_
  rintro e w14 ⟨rfl, hb14⟩
  have hB14 := bstep hB13 hN13 hb14
  have hN14 := hB14.size
  clear hb14 hB13
  go_wp2_with fail
  refine (is_any 14 true w14 (by decide)).mono ?_
  rintro e w15 ⟨rfl, hb15⟩
  have hB15 := bstep hB14 hN14 hb15
  have hN15 := hB15.size
  clear hb15 hB14
  go_wp2_with fail
  refine (is_any 15 false w15 (by decide)).mono ?_
  rintro e w16 ⟨rfl, hb16⟩
  have hB16 := bstep hB15 hN15 hb16
  have hN16 := hB16.size
  clear hb16 hB15
  go_wp2_with fail
  refine (check_lit _ _ [(0, 2), (0, 1)] _ (Sl.lit bc 2 w16 41 _ _ 2 (fun _ _ => rfl) rfl rfl (by decide)) 240 (by decide) 2 rfl).mono ?_
  rintro e w17 ⟨rfl, hb17⟩
  have hB17 := bstep (hB16.alloc hN16 _) (by simp; omega) hb17
  have hN17 := hB17.size
  clear hb17 hB16
  go_wp2_with fail
  refine (check_lit _ _ [(0, 2), (0, 2)] _ (Sl.lit bc 2 w17 41 _ _ 2 (fun _ _ => rfl) rfl rfl (by decide)) 0 (by decide) 2 rfl).mono ?_
  rintro e w18 ⟨rfl, hb18⟩
  have hB18 := bstep (hB17.alloc hN17 _) (by simp; omega) hb18
  clear hb18 hB17
  go_wp2
  go_ret
  exact ⟨rfl, hB18⟩
end Go.Proofs.Ytbfgbkblblnbhaa

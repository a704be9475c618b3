/-
  RegionsEither's walk.
-/
import Derived.Test.YtchdoamoeccjkaaRLaw
namespace Go.Proofs.Ytchdoamoeccjkaa
open Go.RowKit Go.Shelf Go.Mine Go.Mine.R
attribute [local go_sem] Oper.semAt_some
set_option maxRecDepth 100000 in
set_option maxHeartbeats 4000000 in
theorem either_bad (W H : Int) (A B : Option Addr) (c d : Nat) (bl : List Rc) (bw bh x y : Int) (l : List Int) (w : World) (hS : Sl rcC 4 w A c bl) (hI : ∀ r ∈ bl, I64R r) (hL : Sl ic 1 w B d l) (h : few46 bl = false ∨ (few46 bl = true ∧ chkA W H bl bw bh ≠ 0) ∨ (few46 bl = true ∧ chkA W H bl bw bh = 0 ∧ 1200 < l.length)) : Calls Try.prog 9 #[scV W H A bl.length c, .int .i64 bw, .int .i64 bh, .int .i64 x, .int .i64 y, .slice B l.length d] w fun e w' => e = .returned (.bool true) ∧ Below w.heap.size w w' := by
  have hlc := hS.le
  have hc := hS.max
  have hld := hL.le
  have hd := hL.max
  have KS := hide sane27_any
  have KF := hide (fun w => few28_any W H A c bl w (by omega))
  have KE := hide (fun w (hS : Sl rcC 4 w A c bl) => refError38_any W H A c bl bw bh w hS hI)
  have b0 := Blk.new w #[.int .i64 W, .int .i64 H, .slice A bl.length c] 45
  have B0 : Below w.heap.size w (w.alloc (.cells #[.int .i64 W, .int .i64 H, .slice A bl.length c] 45)) := kalloc (Below.refl _ _) _
  have S0 := hS.alloc (.cells #[.int .i64 W, .int .i64 H, .slice A bl.length c] 45)
  simp only [scV] at KE KF ⊢
  generalize chkA W H bl bw bh = s at *
  generalize few46 bl = fw at *
  clear hS hI hL
  go_enter Try.func9, Try.ntmps9
  go_wp2_with fail
  generalize w.alloc (.cells #[.int .i64 W, .int .i64 H, .slice A bl.length c] 45) = w0 at *
  refine (KS.out _).mono ?_
  rintro e w1 ⟨rfl, hb1⟩
  have b9 := b0.bel hb1
  have B1 := kcall B0 hb1
  have S1 := S0.bel hb1
  (have y0 := b9.cell (v := .int .i64 W) 0 rfl; have y1 := b9.cell (v := .int .i64 H) 1 rfl; have y2 := b9.cell (v := .slice A bl.length c) 2 rfl)
  clear b0 B0 S0 hb1
  go_wp2_with fail
  refine (KF.out _).mono ?_
  rintro e w2 ⟨rfl, hb2⟩
  rcases h with rfl | ⟨rfl, hs⟩ | ⟨rfl, rfl, hl⟩
  · have HB := hide (kcall B1 hb2)
    clear B1 hb2 S1 b9
    go_wp2
    go_ret
    exact ⟨rfl, HB.out⟩
  · have hsn : (s != 0) = true := by simpa using hs
    have b2 := b9.bel hb2
    have B2 := kcall B1 hb2
    have S2 := S1.bel hb2
    clear b9 B1 S1 hb2 y0 y1 y2
    have y0 := b2.cell (v := .int .i64 W) 0 rfl
    have y1 := b2.cell (v := .int .i64 H) 1 rfl
    have y2 := b2.cell (v := .slice A bl.length c) 2 rfl
    go_wp2_with fail
    refine (KE.out _ S2).mono ?_
    rintro e w3 ⟨rfl, hb3⟩
    have HB := hide (kcall B2 hb3)
    clear B2 hb3 S2 b2 y0 y1 y2
    go_wp2
    go_ret
    exact ⟨rfl, HB.out⟩
  · have gl : decide ((1200 : Int) < l.length) = true := by simp; omega
    have b2 := b9.bel hb2
    have B2 := kcall B1 hb2
    have S2 := S1.bel hb2
    clear b9 B1 S1 hb2 y0 y1 y2
    have y0 := b2.cell (v := .int .i64 W) 0 rfl
    have y1 := b2.cell (v := .int .i64 H) 1 rfl
    have y2 := b2.cell (v := .slice A bl.length c) 2 rfl
    go_wp2_with fail
    refine (KE.out _ S2).mono ?_
    rintro e w3 ⟨rfl, hb3⟩
    have HB := hide (kcall B2 hb3)
    clear B2 hb3 S2 b2 y0 y1 y2
    go_wp2
    go_ret
    exact ⟨rfl, HB.out⟩
set_option maxRecDepth 100000 in
set_option maxHeartbeats 4000000 in
theorem either_some (W H : Int) (A B : Option Addr) (c d : Nat) (bl : List Rc) (bw bh x y : Int) (l : List Int) (w : World) (hS : Sl rcC 4 w A c bl) (hI : ∀ r ∈ bl, I64R r) (hL : Sl ic 1 w B d l) (hx : i64ok x) (hy : i64ok y) (hf : few46 bl = true) (hz : chkA W H bl bw bh = 0) (hl : l.length ≤ 1200) (p : Int × Int) (hp : place W H bl bw bh = some p) : Calls Try.prog 9 #[scV W H A bl.length c, .int .i64 bw, .int .i64 bh, .int .i64 x, .int .i64 y, .slice B l.length d] w fun e w' => e = .returned (.bool true) ∧ Below w.heap.size w w' := by
  (have hlc := hS.le; have hc := hS.max; have hld := hL.le; have hd := hL.max)
  have G := chkA_zero hz
  have gl : decide ((1200 : Int) < l.length) = false := by simp; omega
  have hpb := place_small hz hp
  have pW := pix_iff.2 G.W_
  have pH := pix_iff.2 G.H_
  have pw := G.w_
  have ph := G.h_
  have ibw : i64ok bw := by unfold i64ok; omega
  have ibh : i64ok bh := by unfold i64ok; omega
  have KS := hide sane27_any
  have KF := hide (fun w => few28_any W H A c bl w (by omega))
  have KE := hide (fun w (hS : Sl rcC 4 w A c bl) => refError38_any W H A c bl bw bh w hS hI)
  have K29 := hide (fun w (hS : Sl rcC 4 w A c bl) => place29_any W H A c bl bw bh w hS hI)
  have K33 := hide (fun w (hS : Sl rcC 4 w A c bl) => deny33_any W H A c bl bw bh w hS hI)
  have K35 := hide (fun w (hS : Sl rcC 4 w A c bl) (hL : Sl ic 1 w B d l) => refutes35_any W H A B c d bl bw bh l w hS hI hL)
  have K39 := hide (fun w (hS : Sl rcC 4 w A c bl) => fits39_any W H A c bl bw bh x y w hS G.rcs pW pH hx hy ibw ibh)
  have K39p := hide (fun w (hS : Sl rcC 4 w A c bl) => fits39_any W H A c bl bw bh p.1 p.2 w hS G.rcs pW pH (by unfold i64ok; omega) (by unfold i64ok; omega) ibw ibh)
  rw [hf] at KF
  rw [hz] at KE K33 K35
  rw [placeR_some hz hp] at K29
  rw [(denyB_some hp).1, (denyB_some hp).2] at K33
  rw [refB_some hp l] at K35
  rw [fits_place hz hp] at K39p
  generalize fitsB W H bl bw bh x y = fxy at K39
  obtain ⟨p1, p2⟩ := p
  have b0 := Blk.new w #[.int .i64 W, .int .i64 H, .slice A bl.length c] 45
  have B0 : Below w.heap.size w (w.alloc (.cells #[.int .i64 W, .int .i64 H, .slice A bl.length c] 45)) := kalloc (Below.refl _ _) _
  have S0 := hS.alloc (.cells #[.int .i64 W, .int .i64 H, .slice A bl.length c] 45)
  have L0 := hL.alloc (.cells #[.int .i64 W, .int .i64 H, .slice A bl.length c] 45)
  simp only [scV, placeV, List.length_nil] at KE KF K29 K33 K35 K39 K39p ⊢
  clear hS hI hL hf hz hl hp hpb G pW pH ibw ibh hx hy pw ph
  go_enter Try.func9, Try.ntmps9
  go_wp2_with fail
  generalize w.alloc (.cells #[.int .i64 W, .int .i64 H, .slice A bl.length c] 45) = w0 at *
  refine (KS.out _).mono ?_
  rintro e wn ⟨rfl, hbn⟩
  have b9 := b0
  have B9 := B0
  have S9 := S0
  have L9 := L0
  clear b0 B0 S0 L0
  (replace b9 := b9.bel hbn; replace B9 := kcall B9 hbn; replace S9 := S9.bel hbn; replace L9 := L9.bel hbn; clear hbn)
  (have y0 := b9.cell (v := .int .i64 W) 0 rfl; have y1 := b9.cell (v := .int .i64 H) 1 rfl; have y2 := b9.cell (v := .slice A bl.length c) 2 rfl)
  go_wp2_with fail
  refine (KF.out _).mono ?_
  rintro e wn ⟨rfl, hbn⟩
  (clear y0 y1 y2; (replace b9 := b9.bel hbn; replace B9 := kcall B9 hbn; replace S9 := S9.bel hbn; replace L9 := L9.bel hbn; clear hbn); (have y0 := b9.cell (v := .int .i64 W) 0 rfl; have y1 := b9.cell (v := .int .i64 H) 1 rfl; have y2 := b9.cell (v := .slice A bl.length c) 2 rfl))
  go_wp2_with fail
  refine (KE.out _ S9).mono ?_
  rintro e wn ⟨rfl, hbn⟩
  (clear y0 y1 y2; (replace b9 := b9.bel hbn; replace B9 := kcall B9 hbn; replace S9 := S9.bel hbn; replace L9 := L9.bel hbn; clear hbn); (have y0 := b9.cell (v := .int .i64 W) 0 rfl; have y1 := b9.cell (v := .int .i64 H) 1 rfl; have y2 := b9.cell (v := .slice A bl.length c) 2 rfl))
  go_wp2_with fail
  refine (K29.out _ S9).mono ?_
  rintro e wn ⟨rfl, hbn⟩
  (clear y0 y1 y2; (replace b9 := b9.bel hbn; replace B9 := kcall B9 hbn; replace S9 := S9.bel hbn; replace L9 := L9.bel hbn; clear hbn); (have y0 := b9.cell (v := .int .i64 W) 0 rfl; have y1 := b9.cell (v := .int .i64 H) 1 rfl; have y2 := b9.cell (v := .slice A bl.length c) 2 rfl))
  go_wp2_with fail
  refine (K33.out _ S9).mono ?_
  rintro e wn ⟨A3, c3, rfl, _, hbn⟩
  (clear y0 y1 y2; (replace b9 := b9.bel hbn; replace B9 := kcall B9 hbn; replace S9 := S9.bel hbn; replace L9 := L9.bel hbn; clear hbn); (have y0 := b9.cell (v := .int .i64 W) 0 rfl; have y1 := b9.cell (v := .int .i64 H) 1 rfl; have y2 := b9.cell (v := .slice A bl.length c) 2 rfl))
  go_wp2_with fail
  refine (K39p.out _ S9).mono ?_
  rintro e wn ⟨rfl, hbn⟩
  (clear y0 y1 y2; (replace b9 := b9.bel hbn; replace B9 := kcall B9 hbn; replace S9 := S9.bel hbn; replace L9 := L9.bel hbn; clear hbn); (have y0 := b9.cell (v := .int .i64 W) 0 rfl; have y1 := b9.cell (v := .int .i64 H) 1 rfl; have y2 := b9.cell (v := .slice A bl.length c) 2 rfl))
  go_wp2_with fail
  refine (K35.out _ S9 L9).mono ?_
  rintro e wn ⟨rfl, hbn⟩
  (clear y0 y1 y2; (replace b9 := b9.bel hbn; replace B9 := kcall B9 hbn; replace S9 := S9.bel hbn; replace L9 := L9.bel hbn; clear hbn); (have y0 := b9.cell (v := .int .i64 W) 0 rfl; have y1 := b9.cell (v := .int .i64 H) 1 rfl; have y2 := b9.cell (v := .slice A bl.length c) 2 rfl))
  go_wp2_with fail
  refine (K39.out _ S9).mono ?_
  rintro e wn ⟨rfl, hbn⟩
  have HB := hide (kcall B9 hbn)
  clear b9 B9 S9 L9 hbn y0 y1 y2
  cases fxy
  all_goals
    go_wp2
    go_ret
    exact ⟨rfl, HB.out⟩
set_option maxRecDepth 100000 in
set_option maxHeartbeats 4000000 in
theorem either_none (W H : Int) (A B : Option Addr) (c d : Nat) (bl : List Rc) (bw bh x y : Int) (l : List Int) (w : World) (hS : Sl rcC 4 w A c bl) (hI : ∀ r ∈ bl, I64R r) (hL : Sl ic 1 w B d l) (hx : i64ok x) (hy : i64ok y) (hf : few46 bl = true) (hz : chkA W H bl bw bh = 0) (hl : l.length ≤ 1200) (hp : place W H bl bw bh = none) : Calls Try.prog 9 #[scV W H A bl.length c, .int .i64 bw, .int .i64 bh, .int .i64 x, .int .i64 y, .slice B l.length d] w fun e w' => e = .returned (.bool true) ∧ Below w.heap.size w w' := by
  (have hlc := hS.le; have hc := hS.max; have hld := hL.le; have hd := hL.max)
  have G := chkA_zero hz
  have gl : decide ((1200 : Int) < l.length) = false := by simp; omega
  have pW := pix_iff.2 G.W_
  have pH := pix_iff.2 G.H_
  have pw := G.w_
  have ph := G.h_
  have ibw : i64ok bw := by unfold i64ok; omega
  have ibh : i64ok bh := by unfold i64ok; omega
  have KS := hide sane27_any
  have KF := hide (fun w => few28_any W H A c bl w (by omega))
  have KE := hide (fun w (hS : Sl rcC 4 w A c bl) => refError38_any W H A c bl bw bh w hS hI)
  have K29 := hide (fun w (hS : Sl rcC 4 w A c bl) => place29_any W H A c bl bw bh w hS hI)
  have K33 := hide (fun w (hS : Sl rcC 4 w A c bl) => deny33_any W H A c bl bw bh w hS hI)
  have K35 := hide (fun w (hS : Sl rcC 4 w A c bl) (hL : Sl ic 1 w B d l) => refutes35_any W H A B c d bl bw bh l w hS hI hL)
  have K35o := hide (fun A2 c2 w (hS : Sl rcC 4 w A c bl) (hL : Sl ic 1 w A2 c2 (hitsL bl bw bh (places W H bl bw bh))) => refutes35_any W H A A2 c c2 bl bw bh _ w hS hI hL)
  have K39 := hide (fun w (hS : Sl rcC 4 w A c bl) => fits39_any W H A c bl bw bh x y w hS G.rcs pW pH hx hy ibw ibh)
  rw [hf] at KF
  rw [hz] at KE K33 K35 K35o
  rw [placeR_none hz hp] at K29
  rw [(denyB_none hz hp).1, (denyB_none hz hp).2] at K33
  rw [refB_own hz hp] at K35o
  rw [fits_none hz hp] at K39
  have hhl : (hitsL bl bw bh (places W H bl bw bh)).length ≤ 1681 := by
    have := places_few (W := W) (H := H) (w := bw) (h := bh) (show bl.length ≤ 40 by have := G.few; omega)
    simp [hitsL]; omega
  generalize refB W H bl bw bh l = any at K35
  generalize hitsL bl bw bh (places W H bl bw bh) = HL at K33 K35o hhl
  have b0 := Blk.new w #[.int .i64 W, .int .i64 H, .slice A bl.length c] 45
  have B0 : Below w.heap.size w (w.alloc (.cells #[.int .i64 W, .int .i64 H, .slice A bl.length c] 45)) := kalloc (Below.refl _ _) _
  have S0 := hS.alloc (.cells #[.int .i64 W, .int .i64 H, .slice A bl.length c] 45)
  have L0 := hL.alloc (.cells #[.int .i64 W, .int .i64 H, .slice A bl.length c] 45)
  simp only [scV, placeV] at KE KF K29 K33 K35 K35o K39 ⊢
  clear hS hI hL hf hz hl hp G pW pH ibw ibh hx hy pw ph
  go_enter Try.func9, Try.ntmps9
  go_wp2_with fail
  generalize w.alloc (.cells #[.int .i64 W, .int .i64 H, .slice A bl.length c] 45) = w0 at *
  refine (KS.out _).mono ?_
  rintro e wn ⟨rfl, hbn⟩
  have b9 := b0
  have B9 := B0
  have S9 := S0
  have L9 := L0
  clear b0 B0 S0 L0
  (replace b9 := b9.bel hbn; replace B9 := kcall B9 hbn; replace S9 := S9.bel hbn; replace L9 := L9.bel hbn; clear hbn)
  (have y0 := b9.cell (v := .int .i64 W) 0 rfl; have y1 := b9.cell (v := .int .i64 H) 1 rfl; have y2 := b9.cell (v := .slice A bl.length c) 2 rfl)
  go_wp2_with fail
  refine (KF.out _).mono ?_
  rintro e wn ⟨rfl, hbn⟩
  (clear y0 y1 y2; (replace b9 := b9.bel hbn; replace B9 := kcall B9 hbn; replace S9 := S9.bel hbn; replace L9 := L9.bel hbn; clear hbn); (have y0 := b9.cell (v := .int .i64 W) 0 rfl; have y1 := b9.cell (v := .int .i64 H) 1 rfl; have y2 := b9.cell (v := .slice A bl.length c) 2 rfl))
  go_wp2_with fail
  refine (KE.out _ S9).mono ?_
  rintro e wn ⟨rfl, hbn⟩
  (clear y0 y1 y2; (replace b9 := b9.bel hbn; replace B9 := kcall B9 hbn; replace S9 := S9.bel hbn; replace L9 := L9.bel hbn; clear hbn); (have y0 := b9.cell (v := .int .i64 W) 0 rfl; have y1 := b9.cell (v := .int .i64 H) 1 rfl; have y2 := b9.cell (v := .slice A bl.length c) 2 rfl))
  go_wp2_with fail
  refine (K29.out _ S9).mono ?_
  rintro e wn ⟨rfl, hbn⟩
  (clear y0 y1 y2; (replace b9 := b9.bel hbn; replace B9 := kcall B9 hbn; replace S9 := S9.bel hbn; replace L9 := L9.bel hbn; clear hbn); (have y0 := b9.cell (v := .int .i64 W) 0 rfl; have y1 := b9.cell (v := .int .i64 H) 1 rfl; have y2 := b9.cell (v := .slice A bl.length c) 2 rfl))
  go_wp2_with fail
  refine (K33.out _ S9).mono ?_
  rintro e wn ⟨A3, c3, rfl, D3, hbn⟩
  (clear y0 y1 y2; (replace b9 := b9.bel hbn; replace B9 := kcall B9 hbn; replace S9 := S9.bel hbn; replace L9 := L9.bel hbn; clear hbn); (have y0 := b9.cell (v := .int .i64 W) 0 rfl; have y1 := b9.cell (v := .int .i64 H) 1 rfl; have y2 := b9.cell (v := .slice A bl.length c) 2 rfl))
  go_wp2_with fail
  refine (K35o.out _ _ _ S9 D3).mono ?_
  rintro e wn ⟨rfl, hbn⟩
  clear D3
  (clear y0 y1 y2; (replace b9 := b9.bel hbn; replace B9 := kcall B9 hbn; replace S9 := S9.bel hbn; replace L9 := L9.bel hbn; clear hbn); (have y0 := b9.cell (v := .int .i64 W) 0 rfl; have y1 := b9.cell (v := .int .i64 H) 1 rfl; have y2 := b9.cell (v := .slice A bl.length c) 2 rfl))
  go_wp2_with fail
  refine (K35.out _ S9 L9).mono ?_
  rintro e wn ⟨rfl, hbn⟩
  (clear y0 y1 y2; (replace b9 := b9.bel hbn; replace B9 := kcall B9 hbn; replace S9 := S9.bel hbn; replace L9 := L9.bel hbn; clear hbn); (have y0 := b9.cell (v := .int .i64 W) 0 rfl; have y1 := b9.cell (v := .int .i64 H) 1 rfl; have y2 := b9.cell (v := .slice A bl.length c) 2 rfl))
  cases any
  all_goals
    go_wp2_with fail
    refine (K39.out _ S9).mono ?_
    rintro e wn ⟨rfl, hbn⟩
    have HB := hide (kcall B9 hbn)
    clear b9 B9 S9 L9 hbn y0 y1 y2
    go_wp2
    go_ret
    exact ⟨rfl, HB.out⟩
theorem regionsEither_law (W H : Int) (A B : Option Addr) (c d : Nat) (bl : List Rc) (bw bh x y : Int) (l : List Int) (w : World) (hS : Sl rcC 4 w A c bl) (hI : ∀ r ∈ bl, I64R r) (hL : Sl ic 1 w B d l) (hx : i64ok x) (hy : i64ok y) : Calls Try.prog 9 #[scV W H A bl.length c, .int .i64 bw, .int .i64 bh, .int .i64 x, .int .i64 y, .slice B l.length d] w fun e w' => e = .returned (.bool true) ∧ Below w.heap.size w w' := by
  by_cases hf : few46 bl = true
  · by_cases hz : chkA W H bl bw bh = 0
    · by_cases hl : l.length ≤ 1200
      · cases hp : place W H bl bw bh with
        | none => exact either_none W H A B c d bl bw bh x y l w hS hI hL hx hy hf hz hl hp
        | some p => exact either_some W H A B c d bl bw bh x y l w hS hI hL hx hy hf hz hl p hp
      · exact either_bad W H A B c d bl bw bh x y l w hS hI hL (.inr (.inr ⟨hf, hz, by omega⟩))
    · exact either_bad W H A B c d bl bw bh x y l w hS hI hL (.inr (.inl ⟨hf, hz⟩))
  · exact either_bad W H A B c d bl bw bh x y l w hS hI hL (.inl (by simpa using hf))
end Go.Proofs.Ytchdoamoeccjkaa

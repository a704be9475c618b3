/-
  RegionsDenySpec's walk.
-/
import Derived.Test.YtchdoamoeccjkaaRSane
namespace Go.Proofs.Ytchdoamoeccjkaa
open Go.RowKit Go.Shelf Go.Mine Go.Mine.R
attribute [local go_sem] Oper.semAt_some
set_option maxRecDepth 100000 in
set_option maxHeartbeats 4000000 in
theorem regionsDenySpec_law (W H : Int) (A B : Option Addr) (c d : Nat) (bl : List Rc) (bw bh : Int) (l : List Int) (w : World) (hS : Sl rcC 4 w A c bl) (hI : ∀ r ∈ bl, I64R r) (hL : Sl ic 1 w B d l) :
    Calls Try.prog 8 #[scV W H A bl.length c, .int .i64 bw, .int .i64 bh, .slice B l.length d] w fun e w' => e = .returned (.bool true) ∧ Below w.heap.size w w' := by
  have hlc := hS.le
  have hc := hS.max
  have hld := hL.le
  have hd := hL.max
  have KS := hide sane27_any
  have KF := hide (fun w => few28_any W H A c bl w (by omega))
  have K33 := hide (fun w (hS : Sl rcC 4 w A c bl) => deny33_any W H A c bl bw bh w hS hI)
  have K34 := hide (fun w (hS : Sl rcC 4 w A c bl) => refDeny34_any W H A c bl bw bh w hS hI)
  have K35 := hide (fun w (hS : Sl rcC 4 w A c bl) (hL : Sl ic 1 w B d l) => refutes35_any W H A B c d bl bw bh l w hS hI hL)
  have K36 := hide (fun w (hS : Sl rcC 4 w A c bl) (hL : Sl ic 1 w B d l) => refRefutes36_any W H A B c d bl bw bh l w hS hI hL)
  have b0 := Blk.new w #[.int .i64 W, .int .i64 H, .slice A bl.length c] 45
  have B0 : Below w.heap.size w (w.alloc (.cells #[.int .i64 W, .int .i64 H, .slice A bl.length c] 45)) := kalloc (Below.refl _ _) _
  have S0 := hS.alloc (.cells #[.int .i64 W, .int .i64 H, .slice A bl.length c] 45)
  have L0 := hL.alloc (.cells #[.int .i64 W, .int .i64 H, .slice A bl.length c] 45)
  simp only [scV, scC] at K33 K34 K35 K36 KF ⊢
  generalize denyB W H bl bw bh = db at *
  generalize denyL W H bl bw bh = dl at *
  generalize refB W H bl bw bh l = rb at *
  generalize chkA W H bl bw bh = s at *
  generalize few46 bl = fw at *
  clear hS hI hL
  go_enter Try.func8, Try.ntmps8
  go_wp2_with fail
  generalize w.alloc (.cells #[.int .i64 W, .int .i64 H, .slice A bl.length c] 45) = w0 at *
  refine (KS.out _).mono ?_
  rintro e w1 ⟨rfl, hb1⟩
  have b9 := b0.bel hb1
  have B1 := kcall B0 hb1
  have S1 := S0.bel hb1
  have L1 := L0.bel hb1
  (have y0 := b9.cell (v := .int .i64 W) 0 rfl; have y1 := b9.cell (v := .int .i64 H) 1 rfl; have y2 := b9.cell (v := .slice A bl.length c) 2 rfl)
  clear b0 B0 S0 L0 hb1
  go_wp2_with fail
  refine (KF.out _).mono ?_
  rintro e w2 ⟨rfl, hb2⟩
  have b2 := b9.bel hb2
  have B2 := kcall B1 hb2
  have S2 := S1.bel hb2
  have L2 := L1.bel hb2
  clear b9 B1 S1 L1 hb2 y0 y1 y2
  by_cases hfw : fw = true ∧ l.length ≤ 1200
  · obtain ⟨rfl, hl⟩ := hfw
    have gl : decide ((1200 : Int) < l.length) = false := by simp; omega
    have y0 := b2.cell (v := .int .i64 W) 0 rfl
    have y1 := b2.cell (v := .int .i64 H) 1 rfl
    have y2 := b2.cell (v := .slice A bl.length c) 2 rfl
    go_wp2_with fail
    refine (K33.out _ S2).mono ?_
    rintro e w3 ⟨A3, c3, rfl, D3, hb3⟩
    have b9 := b2.bel hb3
    have B3 := kcall B2 hb3
    have S3 := S2.bel hb3
    have L3 := L2.bel hb3
    clear b2 B2 S2 L2 hb3 y0 y1 y2
    (have y0 := b9.cell (v := .int .i64 W) 0 rfl; have y1 := b9.cell (v := .int .i64 H) 1 rfl; have y2 := b9.cell (v := .slice A bl.length c) 2 rfl)
    go_wp2_with fail
    refine (K34.out _ S3).mono ?_
    rintro e w4 ⟨A4, c4, rfl, E4, hb4⟩
    have b4 := b9.bel hb4
    have B4 := kcall B3 hb4
    have S4 := S3.bel hb4
    have L4 := L3.bel hb4
    have D4 := D3.bel hb4
    clear b9 B3 S3 L3 D3 hb4 y0 y1 y2
    have y0 := b4.cell (v := .int .i64 W) 0 rfl
    have y1 := b4.cell (v := .int .i64 H) 1 rfl
    have y2 := b4.cell (v := .slice A bl.length c) 2 rfl
    go_wp2_with fail
    refine (K35.out _ S4 L4).mono ?_
    rintro e w5 ⟨rfl, hb5⟩
    have b9 := b4.bel hb5
    have B5 := kcall B4 hb5
    have S5 := S4.bel hb5
    have L5 := L4.bel hb5
    have D5 := D4.bel hb5
    have E5 := E4.bel hb5
    clear b4 B4 S4 L4 D4 E4 hb5 y0 y1 y2
    (have y0 := b9.cell (v := .int .i64 W) 0 rfl; have y1 := b9.cell (v := .int .i64 H) 1 rfl; have y2 := b9.cell (v := .slice A bl.length c) 2 rfl)
    go_wp2_with fail
    refine (K36.out _ S5 L5).mono ?_
    rintro e w6 ⟨rfl, hb6⟩
    have B6 := kcall B5 hb6
    have D6 := D5.bel hb6
    have E6 := E5.bel hb6
    clear b9 B5 S5 L5 D5 E5 hb6 y0 y1 y2
    go_wp2_with fail
    refine (sameInts37_any _ _ _ _ dl dl _ D6 E6).mono ?_
    rintro e w7 ⟨rfl, hb7⟩
    have B7 := hide (kcall B6 hb7)
    clear B6 D6 E6 hb7
    go_wp2
    go_ret
    exact ⟨ret_bool (by simp), B7.out⟩
  · have HB := hide B2
    have hfw' : fw = false ∨ (fw = true ∧ 1200 < l.length) := by
      cases fw
      · exact .inl rfl
      · exact .inr ⟨rfl, by simp at hfw; omega⟩
    clear B2 b2 S2 L2 hfw
    rcases hfw' with rfl | ⟨rfl, hl⟩
    · go_wp2
      go_ret
      exact ⟨rfl, HB.out⟩
    · have gl : decide ((1200 : Int) < l.length) = true := by simp; omega
      go_wp2
      go_ret
      exact ⟨rfl, HB.out⟩
end Go.Proofs.Ytchdoamoeccjkaa

/-
  RegionsSpec's walk.
-/
import Derived.Test.YtchdoamoeccjkaaRSane
namespace Go.Proofs.Ytchdoamoeccjkaa
open Go.RowKit Go.Shelf Go.Mine Go.Mine.R
attribute [local go_sem] Oper.semAt_some
set_option maxRecDepth 100000 in
set_option maxHeartbeats 4000000 in
theorem regionsSpec_law (W H : Int) (A : Option Addr) (c : Nat) (bl : List Rc) (bw bh : Int) (w : World) (hS : Sl rcC 4 w A c bl) (hI : ∀ r ∈ bl, I64R r) :
    Calls Try.prog 7 #[scV W H A bl.length c, .int .i64 bw, .int .i64 bh] w fun e w' => e = .returned (.bool true) ∧ Below w.heap.size w w' := by
  have hlc := hS.le
  have hc := hS.max
  have KS := hide sane27_any
  have KF := hide (fun w => few28_any W H A c bl w (by omega))
  have K29 := hide (fun w (hS : Sl rcC 4 w A c bl) => place29_any W H A c bl bw bh w hS hI)
  have K30 := hide (fun w (hS : Sl rcC 4 w A c bl) => refPlace30_any W H A c bl bw bh w hS hI)
  have K31 := hide (fun w (hS : Sl rcC 4 w A c bl) => check31_any W H A c bl w hS hI)
  have K32 := hide (fun w (hS : Sl rcC 4 w A c bl) => refCheck32_any W H A c bl w hS hI)
  obtain ⟨R1, R2, R3, R4⟩ : ∃ R, R = placeR W H bl bw bh := ⟨_, rfl⟩
  have b0 := Blk.new w #[.int .i64 W, .int .i64 H, .slice A bl.length c] 45
  have B0 : Below w.heap.size w (w.alloc (.cells #[.int .i64 W, .int .i64 H, .slice A bl.length c] 45)) := kalloc (Below.refl _ _) _
  have S0 := hS.alloc (.cells #[.int .i64 W, .int .i64 H, .slice A bl.length c] 45)
  simp only [scV, scC, placeV] at K29 K30 K31 K32 KF ⊢
  generalize placeR W H bl bw bh = R at *
  obtain ⟨r1, r2, r3, r4⟩ := R
  dsimp only at K29 K30
  generalize chkS W H bl = s at *
  generalize few46 bl = fw at *
  clear hS hI
  go_enter Try.func7, Try.ntmps7
  go_wp2_with fail
  generalize w.alloc (.cells #[.int .i64 W, .int .i64 H, .slice A bl.length c] 45) = w0 at *
  refine (KS.out _).mono ?_
  rintro e w1 ⟨rfl, hb1⟩
  have b1 := b0.bel hb1
  have B1 := kcall B0 hb1
  have S1 := S0.bel hb1
  have y0 := b1.cell (v := .int .i64 W) 0 rfl
  have y1 := b1.cell (v := .int .i64 H) 1 rfl
  have y2 := b1.cell (v := .slice A bl.length c) 2 rfl
  clear b0 B0 S0 hb1
  go_wp2_with fail
  refine (KF.out _).mono ?_
  rintro e w2 ⟨rfl, hb2⟩
  have b2 := b1.bel hb2
  have B2 := kcall B1 hb2
  have S2 := S1.bel hb2
  clear b1 B1 S1 hb2 y0 y1 y2
  cases fw
  · have HB := hide B2
    clear B2 b2 S2
    go_wp2
    go_ret
    exact ⟨rfl, HB.out⟩
  · have y0 := b2.cell (v := .int .i64 W) 0 rfl
    have y1 := b2.cell (v := .int .i64 H) 1 rfl
    have y2 := b2.cell (v := .slice A bl.length c) 2 rfl
    go_wp2_with fail
    refine (K29.out _ S2).mono ?_
    rintro e w3 ⟨rfl, hb3⟩
    have b3 := b2.bel hb3
    have B3 := kcall B2 hb3
    have S3 := S2.bel hb3
    clear b2 B2 S2 hb3 y0 y1 y2
    have y0 := b3.cell (v := .int .i64 W) 0 rfl
    have y1 := b3.cell (v := .int .i64 H) 1 rfl
    have y2 := b3.cell (v := .slice A bl.length c) 2 rfl
    go_wp2_with fail
    refine (K30.out _ S3).mono ?_
    rintro e w4 ⟨rfl, hb4⟩
    have b4 := b3.bel hb4
    have B4 := hide (kcall B3 hb4)
    have S4 := S3.bel hb4
    have yl := b4.lt
    have q0 := BW.get yl (b4.cell (v := .int .i64 W) 0 rfl)
    have q1 := BW.get yl (b4.cell (v := .int .i64 H) 1 rfl)
    have q2 := BW.get yl (b4.cell (v := .slice A bl.length c) 2 rfl)
    have KX := hide fun z : BW w4 => K31.out z.world (S4.bel z.below)
    have KY := hide fun z : BW w4 => K32.out z.world (S4.bel z.below)
    clear b3 B3 S3 hb4 y0 y1 y2 b4 S4
    go_wp2_with fail
    refine wp_quiet_below (by kernel_rfl) (by kernel_rfl) ?_
    repeat (go_big_quiet_step ((first | (go_at_call 31; exact quiet_below (KX.out _)) | (go_at_call 32; exact quiet_below (KY.out _)))))
    refine wpQuiet_nil ?_
    rintro _ ⟨z, rfl⟩
    have hz := hide (B4.out.trans (z.below.mono B4.out.size))
    clear q0 q1 q2 KX KY
    go_wp2
    go_ret
    exact ⟨ret_bool (by simp), hz.out⟩
end Go.Proofs.Ytchdoamoeccjkaa

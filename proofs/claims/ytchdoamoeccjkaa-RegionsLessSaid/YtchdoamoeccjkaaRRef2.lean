/-
  The reference's Check, Error, Fits, Few, SameInts.
-/
import Derived.Test.YtchdoamoeccjkaaRRef
import Derived.Test.YtchdoamoeccjkaaRBack
namespace Go.Proofs.Ytchdoamoeccjkaa
open Go.RowKit Go.Shelf Go.Mine Go.Mine.R
attribute [local go_sem] Oper.semAt_some

set_option maxRecDepth 100000 in
set_option maxHeartbeats 2000000 in
theorem refCheck32_any (W H : Int) (A : Option Addr) (c : Nat) (bl : List Rc) (w : World) (hS : Sl rcC 4 w A c bl) (hI : ∀ r ∈ bl, I64R r) :
    Calls Try.prog 32 #[scV W H A bl.length c] w fun e w' => e = .returned (.int .i64 (chkS W H bl)) ∧ Below w.heap.size w w' := by
  have hlc := hS.le
  have hc := hS.max
  have E := hide (chkS_eq W H bl)
  have K1 := hide (fun w => pixR_any W w)
  have K2 := hide (fun w => pixR_any H w)
  unfold scV
  generalize chkS W H bl = r at E ⊢
  by_cases h4 : 32 < bl.length
  · have g4 : decide ((32 : Int) < bl.length) = true := by simp; omega
    have E' := hide (E.out.trans (if_pos h4))
    clear E
    go_enter Try.func32, Try.ntmps32
    go_wp2
    go_ret
    exact ⟨ret_int E'.out.symm, kalloc (Below.refl _ _) _⟩
  · have g4 : decide ((32 : Int) < bl.length) = false := by simp; omega
    have E' := E.out.trans (if_neg h4)
    clear E
    by_cases hp : pix W = true ∧ pix H = true
    · have KL := hide (fun r (hr : r ∈ bl) w => lies68_any r W H w (hI r hr) hp.1 hp.2)
      rw [hp.1] at K1
      rw [hp.2] at K2
      rw [hp.1, hp.2, Bool.true_and, Bool.true_and] at E'
      have E := hide E'
      have hS2 := hS.alloc (.cells (scC W H A bl.length c) 45)
      have b0 := Blk.new w (scC W H A bl.length c) 45
      have hb2 : Below w.heap.size w (w.alloc (.cells (scC W H A bl.length c) 45)) := kalloc (Below.refl _ _) _
      simp only [scC] at *
      clear hp E' hS hI
      go_enter Try.func32, Try.ntmps32
      go_wp2_with (go_at_call 67; (first | with_reducible refine (K1.out _).mono ?_ | with_reducible refine (K2.out _).mono ?_); rintro e w' ⟨rfl, rfl⟩)
      generalize w.alloc (.cells #[.int .i64 W, .int .i64 H, .slice A bl.length c] 45) = w2 at *
      go_loopw [3] (fun i wr => ∃ k : Nat, k ≤ bl.length ∧ i = .int .i64 k ∧ noOdd W H bl = noOdd W H (bl.drop k) ∧ Below w2.heap.size w2 wr) (fun i _ => bl.length - (nI i).toNat)
      case atStart => exact ⟨0, Nat.zero_le _, rfl, rfl, Below.refl _ _⟩
      case round =>
        obtain ⟨k, hk, rfl, hq, hbr⟩ := hrel
        have d0 := b0.bel hbr
        have y0 := d0.cell (v := .int .i64 W) 0 rfl
        have y1 := d0.cell (v := .int .i64 H) 1 rfl
        have y2 := d0.cell (v := .slice A bl.length c) 2 rfl
        have yl := d0.lt
        have HB := hide (hb2.trans (hbr.mono hb2.size))
        by_cases hlt : k < bl.length
        · obtain ⟨r', bb, off, hx, hdr, rfl, hbw, c0, c1, c2, c3⟩ := Sl.rc_at (hS2.bel hbr) hlt
          rw [hdr, show noOdd W H (r' :: bl.drop (k + 1)) = (lies W H r' && noOdd W H (bl.drop (k + 1))) from rfl] at hq
          have KX := hide (KL.out r' (List.mem_of_getElem? hx))
          generalize lies W H r' = v at KX hq
          simp only [rcV] at KX
          have HR := hide hbr
          have q0 := BW.get yl y0
          have q1 := BW.get yl y1
          have q2 := BW.get yl y2
          have n0 := BW.get hbw c0
          have n1 := BW.get hbw c1
          have n2 := BW.get hbw c2
          have n3 := BW.get hbw c3
          clear hdr hx hS2 hbr b0 d0 KL c0 c1 c2 c3 hb2
          cases v
          · rw [Bool.false_and] at hq
            rw [hq] at E
            clear hq
            go_wp2_with fail
            refine wp_quiet_below (by kernel_rfl) (by kernel_rfl) ?_
            repeat (go_big_quiet_step ((go_at_call 68; exact quiet_below (KX.out _))))
            refine wpQuiet_nil ?_
            rintro _ ⟨z, rfl⟩
            have hz := hide (HB.out.trans (z.below.mono HB.out.size))
            clear q0 q1 q2 n0 n1 n2 n3
            go_wp2
            go_ret
            exact ⟨ret_int E.out.symm, hz.out⟩
          · rw [Bool.true_and] at hq
            have H := hide hq
            clear hq
            go_wp2_with fail
            refine wp_quiet_below (by kernel_rfl) (by kernel_rfl) ?_
            repeat (go_big_quiet_step ((go_at_call 68; exact quiet_below (KX.out _))))
            refine wpQuiet_nil ?_
            rintro _ ⟨z, rfl⟩
            have hz := hide (HR.out.trans (z.below.mono HR.out.size))
            clear q0 q1 q2 n0 n1 n2 n3
            go_wp2
            go_roundw
            case rel => exact ⟨k + 1, by omega, by go_num, H.out, hz.out⟩
            case measure => simp [nI]; omega
        · rw [List.drop_of_length_le (by omega)] at hq
          rw [hq] at E
          clear hq hS2 KL
          go_wp2
          go_ret
          exact ⟨ret_int E.out.symm, HB.out⟩
    · have E : Hid (r = 460) := hide (E'.trans (by
        rw [if_neg]
        simp only [Bool.and_eq_true]
        rintro ⟨h, _⟩
        exact hp h))
      clear E' hS hI
      by_cases h1 : pix W = true
      · have h2 : pix H = false := by
          cases h : pix H
          · rfl
          · exact absurd ⟨h1, h⟩ hp
        rw [h1] at K1
        rw [h2] at K2
        clear hp h1 h2
        go_enter Try.func32, Try.ntmps32
        go_wp2_with (go_at_call 67; (first | with_reducible refine (K1.out _).mono ?_ | with_reducible refine (K2.out _).mono ?_); rintro e w' ⟨rfl, rfl⟩)
        go_ret
        exact ⟨ret_int E.out.symm, kalloc (Below.refl _ _) _⟩
      · have h1 : pix W = false := by simpa using h1
        rw [h1] at K1
        clear hp K2
        go_enter Try.func32, Try.ntmps32
        go_wp2_with (go_at_call 67; with_reducible refine (K1.out _).mono ?_; rintro e w' ⟨rfl, rfl⟩)
        go_ret
        exact ⟨ret_int E.out.symm, kalloc (Below.refl _ _) _⟩
set_option maxRecDepth 100000 in
set_option maxHeartbeats 2000000 in
theorem refError38_any (W H : Int) (A : Option Addr) (c : Nat) (bl : List Rc) (bw bh : Int) (w : World) (hS : Sl rcC 4 w A c bl) (hI : ∀ r ∈ bl, I64R r) :
    Calls Try.prog 38 #[scV W H A bl.length c, .int .i64 bw, .int .i64 bh] w fun e w' => e = .returned (.int .i64 (chkA W H bl bw bh)) ∧ Below w.heap.size w w' := by
  have K := hide (refCheck32_any W H A c bl _ (hS.alloc (.cells (scC W H A bl.length c) 45)) hI)
  have E := hide (show chkA W H bl bw bh = if chkS W H bl = 0 then (if pix bw && pix bh then 0 else 1) else chkS W H bl from rfl)
  have K1 := hide (fun w => pixR_any bw w)
  have K2 := hide (fun w => pixR_any bh w)
  have hx := chkS_cases W H bl
  simp only [scV, scC] at K ⊢
  generalize chkA W H bl bw bh = r at E ⊢
  generalize chkS W H bl = s at K E hx
  generalize pix bw = p1 at K1 E
  generalize pix bh = p2 at K2 E
  clear hS hI
  by_cases hs : s = 0
  · subst hs
    have E' := hide (E.out.trans (if_pos rfl))
    clear E hx
    cases p1
    all_goals
      cases p2
      all_goals
        go_enter Try.func38, Try.ntmps38
        go_wp2_with fail
        refine (K.out).mono ?_
        rintro e w' ⟨rfl, hb1⟩
        go_wp2_with (go_at_call 67; (first | with_reducible refine (K1.out _).mono ?_ | with_reducible refine (K2.out _).mono ?_); rintro e w' ⟨rfl, rfl⟩)
        go_ret
        exact ⟨ret_int E'.out.symm, kcall (kalloc (Below.refl _ _) _) hb1⟩
  · have E' := hide (E.out.trans (if_neg hs))
    have hn : (s != 0) = true := by simpa using hs
    clear E hx
    go_enter Try.func38, Try.ntmps38
    go_wp2_with fail
    refine (K.out).mono ?_
    rintro e w' ⟨rfl, hb1⟩
    go_wp2
    go_ret
    exact ⟨ret_int E'.out.symm, kcall (kalloc (Below.refl _ _) _) hb1⟩
def few46 (bl : List Rc) : Bool := decide (bl.length ≤ 40)
theorem few28_any (W H : Int) (A : Option Addr) (c : Nat) (bl : List Rc) (w : World) (hc : bl.length ≤ 9223372036854775807) :
    Calls Try.prog 28 #[scV W H A bl.length c] w fun e w' => e = .returned (.bool (few46 bl)) ∧ Below w.heap.size w w' := by
  have E := hide (show few46 bl = true ↔ (bl.length : Int) ≤ 40 by simp [few46]; omega)
  unfold scV
  generalize few46 bl = r at E ⊢
  go_enter Try.func28, Try.ntmps28
  go_wp2
  go_ret
  exact ⟨ret_bool (by rw [Bool.eq_iff_iff, E.out]; simp), kalloc (Below.refl _ _) _⟩
theorem sameInts37_any (A B : Option Addr) (c d : Nat) (la lb : List Int) (w : World) (hA : Sl ic 1 w A c la) (hB : Sl ic 1 w B d lb) :
    Calls Try.prog 37 #[.slice A la.length c, .slice B lb.length d] w fun e w' => e = .returned (.bool (decide (la = lb))) ∧ Below w.heap.size w w' := by
  have a1 := hA.le
  have a2 := hA.max
  have b1 := hB.le
  have b2 := hB.max
  by_cases hl : la.length = lb.length
  · have g1 : ((la.length : Int) != (lb.length : Int)) = false := by simp [hl]
    have HL := hide hl
    clear hl
    go_enter Try.func37, Try.ntmps37
    go_wp2
    go_loopw [5] (fun i wr => ∃ (k : Nat), k ≤ la.length ∧ i = .int .i64 k ∧ la.take k = lb.take k ∧ Below w.heap.size w wr) (fun i _ => la.length - (nI i).toNat)
    case atStart => exact ⟨0, Nat.zero_le _, rfl, rfl, Below.refl _ _⟩
    case round =>
      obtain ⟨k, hk, rfl, ht, hb⟩ := hrel
      by_cases hlt : k < la.length
      · obtain ⟨x, ba, oa, hx, _, rfl, _, p1⟩ := Sl.ic_at (hA.bel hb) hlt
        obtain ⟨y, bb, ob, hy, _, rfl, _, q1⟩ := Sl.ic_at (hB.bel hb) (show k < lb.length by rw [← HL.out]; exact hlt)
        have hkb : (k : Int) < lb.length := by have := HL.out; omega
        have HT := hide ht
        have HX := hide hx
        have HY := hide hy
        clear ht hx hy hA hB
        by_cases hxy : x = y
        · subst hxy
          go_wp2_with fail
          refine wp_still_all (by kernel_rfl) (by kernel_rfl) ?_
          repeat ((with_reducible refine wpStill_step (fun K hK => ?_)); go_simp; (try go_bits); (with_reducible refine hK _ ?_); clear hK K)
          (with_reducible refine wpStill_nil ?_)
          go_wp2
          go_roundw
          case rel => exact ⟨k + 1, by omega, by go_num, by rw [take_of_get HX.out, take_of_get HY.out, HT.out], hb.drew⟩
          case measure => simp [nI]; omega
        · have hne : la ≠ lb := by
            intro e; subst e
            have := HX.out.symm.trans HY.out
            exact hxy (by simpa using this)
          have HN := hide hne
          clear hne
          go_wp2_with fail
          refine wp_still_all (by kernel_rfl) (by kernel_rfl) ?_
          repeat ((with_reducible refine wpStill_step (fun K hK => ?_)); go_simp; (try go_bits); (with_reducible refine hK _ ?_); clear hK K)
          (with_reducible refine wpStill_nil ?_)
          go_wp2
          go_ret
          exact ⟨ret_bool (by simp [HN.out]), hb.drew⟩
      · have HT := hide ht
        clear ht
        go_wp2
        go_ret
        refine ⟨ret_bool ?_, hb⟩
        have h := HT.out
        rw [List.take_of_length_le (by omega), List.take_of_length_le (by have := HL.out; omega)] at h
        simp [h]
  · have g1 : ((la.length : Int) != (lb.length : Int)) = true := by rw [bne_iff_ne]; omega
    go_enter Try.func37, Try.ntmps37
    go_wp2
    go_ret
    exact ⟨ret_bool (by simp; intro e; exact hl (by rw [e])), Below.refl _ _⟩
/-- does a box fit -/
def fitsB (W H : Int) (bl : List Rc) (bw bh x y : Int) : Bool := lies W H ⟨x, y, bw, bh⟩ && free bl bw bh x y
set_option maxRecDepth 100000 in
set_option maxHeartbeats 2000000 in
theorem fits39_any (W H : Int) (A : Option Addr) (c : Nat) (bl : List Rc) (bw bh x y : Int) (w : World) (hS : Sl rcC 4 w A c bl) (hI : ∀ r ∈ bl, RcS r) (hW : pix W = true) (hH : pix H = true) (hx : i64ok x) (hy : i64ok y) (hbw : i64ok bw) (hbh : i64ok bh) :
    Calls Try.prog 39 #[scV W H A bl.length c, .int .i64 bw, .int .i64 bh, .int .i64 x, .int .i64 y] w fun e w' => e = .returned (.bool (fitsB W H bl bw bh x y)) ∧ Below w.heap.size w w' := by
  have hS2 := (hS.alloc (.cells (scC W H A bl.length c) 45)).alloc (.cells #[.int .i64 x, .int .i64 y, .int .i64 bw, .int .i64 bh] 86)
  have b0 : Blk ((w.alloc (.cells (scC W H A bl.length c) 45)).alloc (.cells #[.int .i64 x, .int .i64 y, .int .i64 bw, .int .i64 bh] 86)) w.heap.size 45 (scC W H A bl.length c) := (Blk.new w _ _).alloc _
  have b1 : Blk ((w.alloc (.cells (scC W H A bl.length c) 45)).alloc (.cells #[.int .i64 x, .int .i64 y, .int .i64 bw, .int .i64 bh] 86)) (w.heap.size + 1) 86 #[.int .i64 x, .int .i64 y, .int .i64 bw, .int .i64 bh] := Blk.new1 w _ _ _
  have hb2 : Below w.heap.size w ((w.alloc (.cells (scC W H A bl.length c) 45)).alloc (.cells #[.int .i64 x, .int .i64 y, .int .i64 bw, .int .i64 bh] 86)) := kalloc (kalloc (Below.refl _ _) _) _
  have K1 := hide (fun w => lies68_any ⟨x, y, bw, bh⟩ W H w ⟨hx, hy, hbw, hbh⟩ hW hH)
  rw [pix_iff] at hW hH
  by_cases hl : lies W H ⟨x, y, bw, bh⟩ = true
  · have hl2 := hl
    rw [lies_iff, pix_iff, pix_iff] at hl2
    dsimp only at hl2
    have K2 := hide (fun w hS => hit64_any W H A c bl ⟨x, y, bw, bh⟩ w hS hI ⟨by unfold I14; dsimp only; omega, by unfold I14; dsimp only; omega, by unfold I14; dsimp only; omega, by unfold I14; dsimp only; omega⟩)
    have E := hide (show fitsB W H bl bw bh x y = decide (hitAt bl ⟨x, y, bw, bh⟩ 0 < 0) by unfold fitsB; rw [hl, Bool.true_and, hitAt_neg])
    rw [hl] at K1
    generalize fitsB W H bl bw bh x y = r at E ⊢
    generalize hitAt bl ⟨x, y, bw, bh⟩ 0 = hv at *
    simp only [scV, scC, rcV] at *
    clear hS hI hl hl2
    go_enter Try.func39, Try.ntmps39
    go_wp2_with fail
    generalize (w.alloc (.cells #[.int .i64 W, .int .i64 H, .slice A bl.length c] 45)).alloc (.cells #[.int .i64 x, .int .i64 y, .int .i64 bw, .int .i64 bh] 86) = w2 at *
    refine (K1.out _).mono ?_
    rintro e w3 ⟨rfl, hb3⟩
    have d0 := b0.bel hb3
    have d1 := b1.bel hb3
    have y0 := d0.cell (v := .int .i64 W) 0 rfl
    have y1 := d0.cell (v := .int .i64 H) 1 rfl
    have y2 := d0.cell (v := .slice A bl.length c) 2 rfl
    have z0 := d1.cell (v := .int .i64 x) 0 rfl
    have z1 := d1.cell (v := .int .i64 y) 1 rfl
    have z2 := d1.cell (v := .int .i64 bw) 2 rfl
    have z3 := d1.cell (v := .int .i64 bh) 3 rfl
    have hB3 := hide (kcall hb2 hb3)
    have KX := hide (K2.out w3 (hS2.bel hb3))
    clear b0 b1 d0 d1 hb2 hb3 K1 K2 hS2
    go_wp2_with fail
    refine (KX.out).mono ?_
    rintro e w4 ⟨rfl, hb4⟩
    have hB4 := hide (kcall hB3.out hb4)
    clear hb4 y0 y1 y2 z0 z1 z2 z3
    go_wp2
    go_ret
    exact ⟨ret_bool E.out.symm, hB4.out⟩
  · have hl : lies W H ⟨x, y, bw, bh⟩ = false := by simpa using hl
    have E := hide (show fitsB W H bl bw bh x y = false by unfold fitsB; rw [hl]; rfl)
    rw [hl] at K1
    generalize fitsB W H bl bw bh x y = r at E ⊢
    simp only [scV, scC, rcV] at *
    clear hS hI hl
    go_enter Try.func39, Try.ntmps39
    go_wp2_with fail
    generalize (w.alloc (.cells #[.int .i64 W, .int .i64 H, .slice A bl.length c] 45)).alloc (.cells #[.int .i64 x, .int .i64 y, .int .i64 bw, .int .i64 bh] 86) = w2 at *
    refine (K1.out _).mono ?_
    rintro e w3 ⟨rfl, hb3⟩
    have hB3 := hide (kcall hb2 hb3)
    clear b0 b1 hb2 hb3 K1 hS2
    go_wp2
    go_ret
    exact ⟨ret_bool E.out.symm, hB3.out⟩
end Go.Proofs.Ytchdoamoeccjkaa

/-
  The reference's Place, Deny, Refutes.
-/
import Derived.Test.YtchdoamoeccjkaaRRef2
import Derived.Test.YtchdoamoeccjkaaRRefPl
import Derived.Test.YtchdoamoeccjkaaRRefuse
namespace Go.Proofs.Ytchdoamoeccjkaa
open Go.RowKit Go.Shelf Go.Mine Go.Mine.R
attribute [local go_sem] Oper.semAt_some

theorem boxes_get {bw bh : Int} {ps : List (Int × Int)} {k : Nat} {r : Rc} (h : (boxes bw bh ps)[k]? = some r) : ∃ p, ps[k]? = some p ∧ r = ⟨p.1, p.2, bw, bh⟩ := by
  unfold boxes at h
  rw [List.getElem?_map] at h
  obtain ⟨p, hp, rfl⟩ := Option.map_eq_some_iff.1 h
  exact ⟨p, hp, rfl⟩
set_option maxRecDepth 100000 in
set_option maxHeartbeats 2000000 in
theorem refPlace30_bad (W H : Int) (A : Option Addr) (c : Nat) (bl : List Rc) (bw bh : Int) (w : World) (hS : Sl rcC 4 w A c bl) (hI : ∀ r ∈ bl, I64R r) (hne : chkA W H bl bw bh ≠ 0) :
    Calls Try.prog 30 #[scV W H A bl.length c, .int .i64 bw, .int .i64 bh] w fun e w' => e = .returned (placeV (placeR W H bl bw bh)) ∧ Below w.heap.size w w' := by
  have E := hide (show placeR W H bl bw bh = (0, 0, false, chkA W H bl bw bh) by unfold placeR; rw [if_neg hne])
  have K := hide (fun w (hS : Sl rcC 4 w A c bl) => refError38_any W H A c bl bw bh w hS hI)
  simp only [scV] at K ⊢
  generalize placeR W H bl bw bh = R at E ⊢
  generalize chkA W H bl bw bh = s at *
  have hn : (s != 0) = true := by simpa using hne
  go_enter Try.func30, Try.ntmps30
  go_wp2_with fail
  refine (K.out _ (hS.alloc _)).mono ?_
  rintro e w1 ⟨rfl, hb1⟩
  have hB := hide (kcall (kalloc (Below.refl _ w) _) hb1)
  clear K hS hb1
  go_wp2
  exact bodyPost_ret (v := placeV (0, 0, false, s)) (by simp [results, Try.results30, go_sem, placeV]) rfl ⟨by rw [E.out], hB.out⟩
set_option maxRecDepth 100000 in
set_option maxHeartbeats 4000000 in
theorem refPlace30_good (W H : Int) (A : Option Addr) (c : Nat) (bl : List Rc) (bw bh : Int) (w : World) (hS : Sl rcC 4 w A c bl) (hI : ∀ r ∈ bl, I64R r) (hz : chkA W H bl bw bh = 0) :
    Calls Try.prog 30 #[scV W H A bl.length c, .int .i64 bw, .int .i64 bh] w fun e w' => e = .returned (placeV (placeR W H bl bw bh)) ∧ Below w.heap.size w w' := by
  have G := chkA_zero hz
  obtain ⟨iW, iH, iw, ih⟩ := G.i14
  have hlc := hS.le
  have hc := hS.max
  have hE := hide (show (∀ p, place W H bl bw bh = some p → placeR W H bl bw bh = (p.1, p.2, true, 0)) ∧ (place W H bl bw bh = none → placeR W H bl bw bh = (0, 0, false, 0)) from ⟨fun p hp => by unfold placeR; rw [if_pos hz, hp], fun hp => by unfold placeR; rw [if_pos hz, hp]⟩)
  have K := hide (fun w (hS : Sl rcC 4 w A c bl) => refError38_any W H A c bl bw bh w hS hI)
  rw [hz] at K
  have KP := hide (fun w (hS : Sl rcC 4 w A c bl) => places63_any W H A c bl bw bh w hS G.rcs iW iH iw ih (by have := G.few; omega))
  have KH := hide (fun p (hp : p ∈ places W H bl bw bh) w (hS : Sl rcC 4 w A c bl) => hit64_any W H A c bl ⟨p.1, p.2, bw, bh⟩ w hS G.rcs (G.at_ hp))
  have hfd := hide (place_find W H bl bw bh)
  have hpn := places_few (W := W) (H := H) (w := bw) (h := bh) (show bl.length ≤ 40 by have := G.few; omega)
  simp only [scV, rcV] at K KP KH ⊢
  generalize placeR W H bl bw bh = R at hE ⊢
  have b0 := Blk.new w #[.int .i64 W, .int .i64 H, .slice A bl.length c] 45
  have hb0 : Below w.heap.size w (w.alloc (.cells #[.int .i64 W, .int .i64 H, .slice A bl.length c] 45)) := kalloc (Below.refl _ _) _
  have hS0 := hS.alloc (.cells #[.int .i64 W, .int .i64 H, .slice A bl.length c] 45)
  clear iW iH iw ih hz hI G hS
  go_enter Try.func30, Try.ntmps30
  go_wp2_with fail
  generalize w.alloc (.cells #[.int .i64 W, .int .i64 H, .slice A bl.length c] 45) = w0 at *
  refine (K.out _ hS0).mono ?_
  rintro e w1 ⟨rfl, hb1⟩
  have b1 := b0.bel hb1
  have hB1 := kcall hb0 hb1
  have hS1 := hS0.bel hb1
  have y0 := b1.cell (v := .int .i64 W) 0 rfl
  have y1 := b1.cell (v := .int .i64 H) 1 rfl
  have y2 := b1.cell (v := .slice A bl.length c) 2 rfl
  clear K b0 hb0 hb1 hS0
  go_wp2_with fail
  refine (KP.out _ hS1).mono ?_
  rintro e w2 ⟨A2, c2, rfl, hSl, hb2⟩
  have b2 := b1.bel hb2
  have hB2 := kcall hB1 hb2
  have hS2 := hS1.bel hb2
  have l_le := hSl.le
  have l_max := hSl.max
  rw [boxes_length] at l_le
  clear KP b1 hB1 hb2 hS1 y0 y1 y2
  go_wp2
  go_loopw [12] (fun i wr => ∃ k : Nat, k ≤ (places W H bl bw bh).length ∧ i = .int .i64 k ∧ ((places W H bl bw bh).drop k).find? (fun p => free bl bw bh p.1 p.2) = place W H bl bw bh ∧ Below w2.heap.size w2 wr) (fun i _ => (places W H bl bw bh).length - (nI i).toNat)
  case atStart => exact ⟨0, Nat.zero_le _, rfl, hfd.out, Below.refl _ _⟩
  case round =>
    obtain ⟨k, hk, rfl, hq, hbr⟩ := hrel
    have HB := hide (hB2.trans (hbr.mono hB2.size))
    by_cases hlt : k < (places W H bl bw bh).length
    · obtain ⟨r, bb, off, hx, hdr, rfl, hbw, c0, c1, c2', c3⟩ := Sl.rc_at (hSl.bel hbr) (show k < (boxes bw bh (places W H bl bw bh)).length by rw [boxes_length]; exact hlt)
      obtain ⟨p, hp, rfl⟩ := boxes_get hx
      rw [drop_of_get hp, List.find?_cons] at hq
      have hpm := List.mem_of_getElem? hp
      have d0 := b2.bel hbr
      have hSr := hS2.bel hbr
      have KX := hide (fun z : BW wr => KH.out p hpm z.world (hSr.bel z.below))
      have hneg := hitAt_neg bl ⟨p.1, p.2, bw, bh⟩ 0
      have hok := hitAt_ok bl ⟨p.1, p.2, bw, bh⟩ 0
      dsimp only at hneg
      rw [← hneg] at hq
      generalize hitAt bl ⟨p.1, p.2, bw, bh⟩ 0 = hv at *
      have yl := d0.lt
      have q0 := BW.get yl (d0.cell (v := .int .i64 W) 0 rfl)
      have q1 := BW.get yl (d0.cell (v := .int .i64 H) 1 rfl)
      have q2 := BW.get yl (d0.cell (v := .slice A bl.length c) 2 rfl)
      have n0 := BW.get hbw c0
      have n1 := BW.get hbw c1
      have n2 := BW.get hbw c2'
      have n3 := BW.get hbw c3
      have HR := hide hbr
      have HQ := hide hq
      have hfb := hbw
      clear hx hdr hp hpm d0 hSr hbr hq b2 hS2 KH hneg hok hSl hfd hB2
      by_cases hvn : hv < 0
      · have hR : R = (p.1, p.2, true, 0) := hE.out.1 p (by rw [← HQ.out]; simp [hvn])
        have HRR := hide hR
        clear hE hR HQ
        go_wp2_with fail
        refine wp_quiet_below (by kernel_rfl) (by kernel_rfl) ?_
        repeat (go_big_quiet_step ((go_at_call 64; exact quiet_below (KX.out _))))
        refine wpQuiet_nil ?_
        rintro _ ⟨z, rfl⟩
        have hz := hide (HB.out.trans (z.below.mono HB.out.size))
        have m0 := n0 z
        have m1 := n1 z
        clear q0 q1 q2 n0 n1 n2 n3 KX
        go_wp2_with fail
        refine wp_still_all (by kernel_rfl) (by kernel_rfl) ?_
        repeat ((with_reducible refine wpStill_step (fun K hK => ?_)); go_simp; (try go_bits); (with_reducible refine hK _ ?_); clear hK K)
        (with_reducible refine wpStill_nil ?_)
        go_wp2
        exact bodyPost_ret (v := placeV (p.1, p.2, true, 0)) (by simp [results, Try.results30, go_sem, placeV]) rfl ⟨by rw [HRR.out], hz.out.drew⟩
      · have HQ' := hide (show ((places W H bl bw bh).drop (k + 1)).find? (fun p => free bl bw bh p.1 p.2) = place W H bl bw bh by rw [← HQ.out]; simp [hvn])
        clear HQ
        go_wp2_with fail
        refine wp_quiet_below (by kernel_rfl) (by kernel_rfl) ?_
        repeat (go_big_quiet_step ((go_at_call 64; exact quiet_below (KX.out _))))
        refine wpQuiet_nil ?_
        rintro _ ⟨z, rfl⟩
        have hz := hide (HR.out.trans (z.below.mono HR.out.size))
        clear q0 q1 q2 n0 n1 n2 n3 KX
        go_wp2
        go_roundw
        case rel => exact ⟨k + 1, by omega, by go_num, HQ'.out, hz.out⟩
        case measure => simp [nI]; omega
    · obtain rfl : k = (places W H bl bw bh).length := by omega
      rw [List.drop_length] at hq
      have hR : R = (0, 0, false, 0) := hE.out.2 hq.symm
      have HRR := hide hR
      clear hE hR hq hSl b2 hS2 KH
      go_wp2
      exact bodyPost_ret (v := placeV (0, 0, false, 0)) (by simp [results, Try.results30, go_sem, placeV]) rfl ⟨by rw [HRR.out], HB.out⟩
end Go.Proofs.Ytchdoamoeccjkaa

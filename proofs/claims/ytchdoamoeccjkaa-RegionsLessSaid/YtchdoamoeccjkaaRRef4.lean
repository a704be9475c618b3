/-
  The reference's Deny, Refutes; the calls of both for all arguments.
-/
import Derived.Test.YtchdoamoeccjkaaRRef3
namespace Go.Proofs.Ytchdoamoeccjkaa
open Go.RowKit Go.Shelf Go.Mine Go.Mine.R
attribute [local go_sem] Oper.semAt_some

set_option maxRecDepth 100000 in
set_option maxHeartbeats 2000000 in
theorem refDeny34_bad (W H : Int) (A : Option Addr) (c : Nat) (bl : List Rc) (bw bh : Int) (w : World) (hS : Sl rcC 4 w A c bl) (hI : ∀ r ∈ bl, I64R r) (hne : chkA W H bl bw bh ≠ 0) :
    Calls Try.prog 34 #[scV W H A bl.length c, .int .i64 bw, .int .i64 bh] w fun e w' => e = .returned (.tuple #[.slice none 0 0, .bool false, .int .i64 (chkA W H bl bw bh)]) ∧ Below w.heap.size w w' := by
  have K := hide (fun w (hS : Sl rcC 4 w A c bl) => refError38_any W H A c bl bw bh w hS hI)
  simp only [scV] at K ⊢
  generalize chkA W H bl bw bh = s at *
  have hn : (s != 0) = true := by simpa using hne
  go_enter Try.func34, Try.ntmps34
  go_wp2_with fail
  refine (K.out _ (hS.alloc _)).mono ?_
  rintro e w1 ⟨rfl, hb1⟩
  have hB := hide (kcall (kalloc (Below.refl _ w) _) hb1)
  clear K hS hb1
  go_wp2
  exact bodyPost_ret (v := .tuple #[.slice none 0 0, .bool false, .int .i64 s]) (by simp [results, Try.results34, go_sem]) rfl ⟨rfl, hB.out⟩
set_option maxRecDepth 100000 in
set_option maxHeartbeats 4000000 in
theorem refDeny34_good (W H : Int) (A : Option Addr) (c : Nat) (bl : List Rc) (bw bh : Int) (w : World) (hS : Sl rcC 4 w A c bl) (hI : ∀ r ∈ bl, I64R r) (hz : chkA W H bl bw bh = 0) :
    Calls Try.prog 34 #[scV W H A bl.length c, .int .i64 bw, .int .i64 bh] w fun e w' => ∃ v, e = .returned (.tuple #[v, .bool (denyB W H bl bw bh), .int .i64 0]) ∧ OwnL ic 1 3 w' w.heap.size v (denyL W H bl bw bh) ∧ Below w.heap.size w w' := by
  have G := chkA_zero hz
  obtain ⟨iW, iH, iw, ih⟩ := G.i14
  obtain ⟨i0, hi, hi0, hi1, hi2⟩ := info_parts Try_info3
  have HI := hide hi
  have hlc := hS.le
  have hc := hS.max
  have hE := hide (show denyB W H bl bw bh = denied W H bl bw bh by unfold denyB; rw [decide_eq_true hz, Bool.true_and])
  have hE2 := hide (show denyL W H bl bw bh = if denied W H bl bw bh = true then hitsL bl bw bh (places W H bl bw bh) else [] by unfold denyL; simp [hz])
  have K := hide (fun w (hS : Sl rcC 4 w A c bl) => refError38_any W H A c bl bw bh w hS hI)
  rw [hz] at K
  have KP := hide (fun w (hS : Sl rcC 4 w A c bl) => places63_any W H A c bl bw bh w hS G.rcs iW iH iw ih (by have := G.few; omega))
  have KH := hide (fun p (hp : p ∈ places W H bl bw bh) w (hS : Sl rcC 4 w A c bl) => hit64_any W H A c bl ⟨p.1, p.2, bw, bh⟩ w hS G.rcs (G.at_ hp))
  have hfd := hide (place_find W H bl bw bh)
  have hpn := places_few (W := W) (H := H) (w := bw) (h := bh) (show bl.length ≤ 40 by have := G.few; omega)
  simp only [scV, rcV] at K KP KH ⊢
  generalize denyB W H bl bw bh = R at hE ⊢
  generalize denyL W H bl bw bh = L at hE2 ⊢
  have b0 := Blk.new w #[.int .i64 W, .int .i64 H, .slice A bl.length c] 45
  have hb0 : Below w.heap.size w (w.alloc (.cells #[.int .i64 W, .int .i64 H, .slice A bl.length c] 45)) := kalloc (Below.refl _ _) _
  have hS0 := hS.alloc (.cells #[.int .i64 W, .int .i64 H, .slice A bl.length c] 45)
  clear iW iH iw ih hz hI G hS hi
  go_enter Try.func34, Try.ntmps34
  go_wp2_with fail
  generalize w.alloc (.cells #[.int .i64 W, .int .i64 H, .slice A bl.length c] 45) = w0 at *
  refine (K.out _ hS0).mono ?_
  rintro e w1 ⟨rfl, hb1⟩
  have b1 := b0.bel hb1
  have hB1 := kcall hb0 hb1
  have hS1 := hS0.bel hb1
  have y0 := b1.cell (v := .int .i64 W) 0 rfl
  have y1 := b1.cell (v := .int .i64 H) 1 rfl
  have y2 := b1.cell (v := .slice A bl.length c) 2 rfl
  clear K b0 hb0 hb1 hS0
  go_wp2_with fail
  refine (KP.out _ hS1).mono ?_
  rintro e w2 ⟨A2, c2, rfl, hSl, hb2⟩
  have b2 := b1.bel hb2
  have hB2 := kcall hB1 hb2
  have hS2 := hS1.bel hb2
  have l_le := hSl.le
  have l_max := hSl.max
  rw [boxes_length] at l_le
  have hN2 := hB2.size
  clear KP b1 hB1 hb2 hS1 y0 y1 y2
  go_wp2
  go_loopw [11, 12] (fun v i wr => ∃ k : Nat, k ≤ (places W H bl bw bh).length ∧ i = .int .i64 k ∧ ((places W H bl bw bh).drop k).find? (fun p => free bl bw bh p.1 p.2) = place W H bl bw bh ∧ OwnL ic 1 3 wr w2.heap.size v (hitsL bl bw bh ((places W H bl bw bh).take k)) ∧ Below w2.heap.size w2 wr) (fun _ i _ => (places W H bl bw bh).length - (nI i).toNat)
  case atStart => exact ⟨0, Nat.zero_le _, rfl, hfd.out, OwnL.fresh _ (Nat.le_refl _), kalloc (Below.refl _ _) _⟩
  case round =>
    obtain ⟨k, hk, rfl, hq, hO, hbr⟩ := hrel
    have HB := hide (hB2.trans (hbr.mono hB2.size))
    by_cases hlt : k < (places W H bl bw bh).length
    · obtain ⟨r, bb, off, hx, hdr, rfl, hbw, c0, c1, c2', c3⟩ := Sl.rc_at (hSl.bel hbr) (show k < (boxes bw bh (places W H bl bw bh)).length by rw [boxes_length]; exact hlt)
      obtain ⟨p, hp, rfl⟩ := boxes_get hx
      rw [drop_of_get hp, List.find?_cons] at hq
      have hsn := hide (show hitsL bl bw bh ((places W H bl bw bh).take (k + 1)) = hitsL bl bw bh ((places W H bl bw bh).take k) ++ [hitAt bl ⟨p.1, p.2, bw, bh⟩ 0] by rw [take_of_get hp, hitsL_snoc])
      have hlen : (hitsL bl bw bh ((places W H bl bw bh).take k)).length = k := by simp [hitsL]; omega
      have hpm := List.mem_of_getElem? hp
      have d0 := b2.bel hbr
      have hSr := hS2.bel hbr
      have KX := hide (fun z : BW wr => KH.out p hpm z.world (hSr.bel z.below))
      have hneg := hitAt_neg bl ⟨p.1, p.2, bw, bh⟩ 0
      have hok := hitAt_ok bl ⟨p.1, p.2, bw, bh⟩ 0
      dsimp only at hneg
      rw [← hneg] at hq
      generalize hitAt bl ⟨p.1, p.2, bw, bh⟩ 0 = hv at *
      generalize hitsL bl bw bh ((places W H bl bw bh).take k) = HL at *
      have yl := d0.lt
      have q0 := BW.get yl (d0.cell (v := .int .i64 W) 0 rfl)
      have q1 := BW.get yl (d0.cell (v := .int .i64 H) 1 rfl)
      have q2 := BW.get yl (d0.cell (v := .slice A bl.length c) 2 rfl)
      have n0 := BW.get hbw c0
      have n1 := BW.get hbw c1
      have n2 := BW.get hbw c2'
      have n3 := BW.get hbw c3
      have HR := hide hbr
      have HQ := hide hq
      have HO := hide hO
      have hlen' : HL.length ≤ 1681 := by omega
      clear hx hdr hp hpm d0 hSr hbr hq b2 hS2 KH hneg hok hSl hfd hB2 hO hlen c0 c1 c2' c3
      by_cases hvn : hv < 0
      · have hd : denied W H bl bw bh = false := by unfold denied; rw [← HQ.out]; simp [hvn]
        have hR := hide (hE.out.trans hd)
        have hL := hide (show L = [] by rw [hE2.out, hd]; rfl)
        clear hE HQ hE2 hd HO
        go_wp2_with fail
        refine wp_quiet_below (by kernel_rfl) (by kernel_rfl) ?_
        repeat (go_big_quiet_step ((go_at_call 64; exact quiet_below (KX.out _))))
        refine wpQuiet_nil ?_
        rintro _ ⟨z, rfl⟩
        have hz := hide (HB.out.trans (z.below.mono HB.out.size))
        clear q0 q1 q2 n0 n1 n2 n3 KX
        go_wp2
        exact bodyPost_ret (v := .tuple #[.slice none 0 0, .bool false, .int .i64 0]) (by simp [results, Try.results34, go_sem]) rfl ⟨_, by rw [hR.out], by rw [hL.out]; exact OwnL.nil _ _ _ _ _, hz.out⟩
      · have HQ' := hide (show ((places W H bl bw bh).drop (k + 1)).find? (fun p => free bl bw bh p.1 p.2) = place W H bl bw bh by rw [← HQ.out]; simp [hvn])
        clear HQ hE hE2
        go_wp2_with fail
        refine wp_quiet_below (by kernel_rfl) (by kernel_rfl) ?_
        repeat (go_big_quiet_step ((go_at_call 64; exact quiet_below (KX.out _))))
        refine wpQuiet_nil ?_
        rintro _ ⟨z, rfl⟩
        have hz := hide (HR.out.trans (z.below.mono HR.out.size))
        have HOz := hide (HO.out.bel z.below)
        have hzs := hz.out.size
        clear q0 q1 q2 n0 n1 n2 n3 KX HO
        go_wp2_with (at_builtin; refine wpList_push (f := ic) (y := hv) (l := HL) rfl (.tmp 40) (.tmp 42) 33 rfl Try.underlying33 HI.out hi0 hi1 hi2 rfl (by decide) rfl (HOz.out.alloc _) rfl (heap_new _ _) rfl rfl ?_ ?_ ?_ ?_ ?_)
        · simp [Value.oneCell', ic]
        · simp only [maxLen]; omega
        · omega
        · first | omega | (simp; omega)
        · intro v6 w6 hO6 hgr hat
          have hb6 := hide (Below.grown (kalloc hz.out (.cells #[.int .i64 hv] 3)) hgr (by first | omega | (simp; omega)) (fun g hg => (HOz.out.blk hg).1))
          rw [← hsn.out] at hO6
          have HO6 := hide hO6
          clear hO6 hgr hat HOz
          go_wp2
          go_roundw
          case rel => exact ⟨k + 1, by omega, by go_num, HQ'.out, HO6.out, hb6.out⟩
          case measure => simp [nI]; omega
    · obtain rfl : k = (places W H bl bw bh).length := by omega
      rw [List.drop_length] at hq
      rw [List.take_length] at hO
      have hd : denied W H bl bw bh = true := by unfold denied; rw [← hq]; rfl
      have hR := hide (hE.out.trans hd)
      have hL := hide (show L = hitsL bl bw bh (places W H bl bw bh) by rw [hE2.out, hd]; rfl)
      obtain ⟨A3, c3, rfl, -⟩ := hO.sl
      have HO := hide hO
      clear hE hq hSl b2 hS2 KH hE2 hd hO
      go_wp2
      exact bodyPost_ret (v := .tuple #[.slice A3 (hitsL bl bw bh (places W H bl bw bh)).length c3, .bool true, .int .i64 0]) (by simp [results, Try.results34, go_sem]) rfl ⟨_, by rw [hR.out], by rw [hL.out]; exact HO.out.mono hN2, HB.out⟩
set_option maxRecDepth 100000 in
set_option maxHeartbeats 2000000 in
theorem refRefutes36_bad (W H : Int) (A B : Option Addr) (c d : Nat) (bl : List Rc) (bw bh : Int) (l : List Int) (w : World) (hS : Sl rcC 4 w A c bl) (hI : ∀ r ∈ bl, I64R r) (hne : chkA W H bl bw bh ≠ 0) :
    Calls Try.prog 36 #[scV W H A bl.length c, .int .i64 bw, .int .i64 bh, .slice B l.length d] w fun e w' => e = .returned (.tuple #[.bool (refB W H bl bw bh l), .int .i64 (chkA W H bl bw bh)]) ∧ Below w.heap.size w w' := by
  have E := hide (show refB W H bl bw bh l = false by unfold refB; simp [hne])
  have K := hide (fun w (hS : Sl rcC 4 w A c bl) => refError38_any W H A c bl bw bh w hS hI)
  simp only [scV] at K ⊢
  generalize refB W H bl bw bh l = R at E ⊢
  generalize chkA W H bl bw bh = s at *
  have hn : (s != 0) = true := by simpa using hne
  go_enter Try.func36, Try.ntmps36
  go_wp2_with fail
  refine (K.out _ (hS.alloc _)).mono ?_
  rintro e w1 ⟨rfl, hb1⟩
  have hB := hide (kcall (kalloc (Below.refl _ w) _) hb1)
  clear K hS hb1
  go_wp2
  exact bodyPost_ret (v := .tuple #[.bool false, .int .i64 s]) (by simp [results, Try.results36, go_sem]) rfl ⟨by rw [E.out], hB.out⟩
set_option maxRecDepth 100000 in
set_option maxHeartbeats 4000000 in
theorem refRefutes36_good (W H : Int) (A B : Option Addr) (c d : Nat) (bl : List Rc) (bw bh : Int) (l : List Int) (w : World) (hS : Sl rcC 4 w A c bl) (hI : ∀ r ∈ bl, I64R r) (hL : Sl ic 1 w B d l) (hz : chkA W H bl bw bh = 0) :
    Calls Try.prog 36 #[scV W H A bl.length c, .int .i64 bw, .int .i64 bh, .slice B l.length d] w fun e w' => e = .returned (.tuple #[.bool (refB W H bl bw bh l), .int .i64 0]) ∧ Below w.heap.size w w' := by
  have G := chkA_zero hz
  obtain ⟨iW, iH, iw, ih⟩ := G.i14
  have hlc := hS.le
  have hc := hS.max
  have hld := hL.le
  have hd := hL.max
  have hE := hide (show refB W H bl bw bh l = provesGo bl bw bh (places W H bl bw bh) l by unfold refB; rw [decide_eq_true hz, Bool.true_and])
  have K := hide (fun w (hS : Sl rcC 4 w A c bl) => refError38_any W H A c bl bw bh w hS hI)
  rw [hz] at K
  have KP := hide (fun w (hS : Sl rcC 4 w A c bl) => places63_any W H A c bl bw bh w hS G.rcs iW iH iw ih (by have := G.few; omega))
  have KC := hide (fun p (hp : p ∈ places W H bl bw bh) r (hr : r ∈ bl) w => common_any ⟨p.1, p.2, bw, bh⟩ r w (G.at_ hp) (G.rcs r hr))
  simp only [scV, rcV] at K KP KC ⊢
  generalize refB W H bl bw bh l = R at hE ⊢
  have b0 := Blk.new w #[.int .i64 W, .int .i64 H, .slice A bl.length c] 45
  have hb0 : Below w.heap.size w (w.alloc (.cells #[.int .i64 W, .int .i64 H, .slice A bl.length c] 45)) := kalloc (Below.refl _ _) _
  have hS0 := hS.alloc (.cells #[.int .i64 W, .int .i64 H, .slice A bl.length c] 45)
  have hL0 := hL.alloc (.cells #[.int .i64 W, .int .i64 H, .slice A bl.length c] 45)
  clear iW iH iw ih hz hI G hS hL
  go_enter Try.func36, Try.ntmps36
  go_wp2_with fail
  generalize w.alloc (.cells #[.int .i64 W, .int .i64 H, .slice A bl.length c] 45) = w0 at *
  refine (K.out _ hS0).mono ?_
  rintro e w1 ⟨rfl, hb1⟩
  have b1 := b0.bel hb1
  have hB1 := kcall hb0 hb1
  have hS1 := hS0.bel hb1
  have hL1 := hL0.bel hb1
  have y0 := b1.cell (v := .int .i64 W) 0 rfl
  have y1 := b1.cell (v := .int .i64 H) 1 rfl
  have y2 := b1.cell (v := .slice A bl.length c) 2 rfl
  clear K b0 hb0 hb1 hS0 hL0
  go_wp2_with fail
  refine (KP.out _ hS1).mono ?_
  rintro e w2 ⟨A2, c2, rfl, hSl, hb2⟩
  have b2 := b1.bel hb2
  have hB2 := kcall hB1 hb2
  have hS2 := hS1.bel hb2
  have hL2 := hL1.bel hb2
  have l_le := hSl.le
  have l_max := hSl.max
  rw [boxes_length] at l_le
  clear KP b1 hB1 hb2 hS1 hL1 y0 y1 y2
  by_cases hln : (places W H bl bw bh).length = l.length
  · have g1 : (((places W H bl bw bh).length : Int) != (l.length : Int)) = false := by rw [hln]; simp
    have HLN := hide hln
    clear hln
    go_wp2
    go_loopw [12] (fun i wr => ∃ k : Nat, k ≤ (places W H bl bw bh).length ∧ i = .int .i64 k ∧ provesGo bl bw bh (places W H bl bw bh) l = provesGo bl bw bh ((places W H bl bw bh).drop k) (l.drop k) ∧ Below w2.heap.size w2 wr) (fun i _ => (places W H bl bw bh).length - (nI i).toNat)
    case atStart => exact ⟨0, Nat.zero_le _, rfl, rfl, Below.refl _ _⟩
    case round =>
      obtain ⟨k, hk, rfl, hq, hbr⟩ := hrel
      have HB := hide (hB2.trans (hbr.mono hB2.size))
      by_cases hlt : k < (places W H bl bw bh).length
      · obtain ⟨r, bb, off, hx, hdr, rfl, hbw, c0, c1, c2', c3⟩ := Sl.rc_at (hSl.bel hbr) (show k < (boxes bw bh (places W H bl bw bh)).length by rw [boxes_length]; exact hlt)
        obtain ⟨p, hp, rfl⟩ := boxes_get hx
        have hkl : k < l.length := by rw [← HLN.out]; exact hlt
        obtain ⟨i, b', o', hi, hdi, rfl, hbw', ci⟩ := Sl.ic_at (hL2.bel hbr) hkl
        rw [drop_of_get hp, hdi, proves_cons] at hq
        have hpm := List.mem_of_getElem? hp
        have d0 := b2.bel hbr
        have y2 := d0.cell (v := .slice A bl.length c) 2 rfl
        have yl := d0.lt
        have hki : (k : Int) < l.length := by omega
        have HR := hide hbr
        have HSr := hide (hS2.bel hbr)
        have H6 := hide hq
        clear hx hdr hp hi hdi hbr hq b2 hS2 hSl hL2 hB2 d0
        by_cases hi0 : i < 0
        · have hR := hide (show R = false by rw [hE.out, H6.out]; simp [hitsAt]; omega)
          have gi : decide (i < 0) = true := by simpa using hi0
          clear H6 KC hE
          go_wp2_with fail
          refine wp_still_tail 28 (by kernel_rfl) (by kernel_rfl) ?_
          simp only [List.take_succ_cons, List.take_zero, List.drop_succ_cons, List.drop_zero]
          repeat ((with_reducible refine wpStill_step (fun K hK => ?_)); go_simp; (try go_bits); (with_reducible refine hK _ ?_); clear hK K)
          (with_reducible refine wpStill_nil ?_)
          have hz := hide HB.out.drew
          clear y2 c0 c1 c2' c3 ci
          go_wp2
          exact bodyPost_ret (v := .tuple #[.bool false, .int .i64 0]) (by simp [results, Try.results36, go_sem]) rfl ⟨by rw [hR.out], hz.out⟩
        · have gi : decide (i < 0) = false := by simpa using hi0
          obtain ⟨m, rfl⟩ : ∃ m : Nat, i = m := ⟨i.toNat, by omega⟩
          by_cases hm : m < bl.length
          · obtain ⟨r, ba, oa, hx2, hdr2, hAe, hbw2, r0, r1, r2, r3⟩ := Sl.rc_at HSr.out hm
            subst hAe
            have KX := hide (KC.out p hpm r (List.mem_of_getElem? hx2))
            have hh : hitsAt bl bw bh p m = hit ⟨p.1, p.2, bw, bh⟩ r := by simp [hitsAt, hx2]
            rw [hh] at H6
            generalize hit ⟨p.1, p.2, bw, bh⟩ r = hv at KX H6
            have gm : decide ((bl.length : Int) ≤ m) = false := by simp; omega
            have hmi : (m : Int) < bl.length := by omega
            clear hx2 hdr2 hh KC HSr hpm
            cases hv
            · have hR := hide (show R = false by rw [hE.out, H6.out]; rfl)
              clear H6 hE
              go_wp2_with fail
              refine wp_still_tail 28 (by kernel_rfl) (by kernel_rfl) ?_
              simp only [List.take_succ_cons, List.take_zero, List.drop_succ_cons, List.drop_zero]
              repeat ((with_reducible refine wpStill_step (fun K hK => ?_)); go_simp; (try go_bits); (with_reducible refine hK _ ?_); clear hK K)
              (with_reducible refine wpStill_nil ?_)
              go_wp2_with fail
              refine (KX.out _).mono ?_
              rintro e wz ⟨rfl, hbz⟩
              have hz := hide (HB.out.drew.trans (hbz.mono (by have := HB.out.size; simpa using this)))
              clear y2 c0 c1 c2' c3 ci r0 r1 r2 r3 hbz
              go_wp2
              exact bodyPost_ret (v := .tuple #[.bool false, .int .i64 0]) (by simp [results, Try.results36, go_sem]) rfl ⟨by rw [hR.out], hz.out⟩
            · have H6' := hide (show provesGo bl bw bh (places W H bl bw bh) l = provesGo bl bw bh ((places W H bl bw bh).drop (k + 1)) (l.drop (k + 1)) by rw [H6.out, Bool.true_and])
              clear H6 hE
              go_wp2_with fail
              refine wp_still_tail 28 (by kernel_rfl) (by kernel_rfl) ?_
              simp only [List.take_succ_cons, List.take_zero, List.drop_succ_cons, List.drop_zero]
              repeat ((with_reducible refine wpStill_step (fun K hK => ?_)); go_simp; (try go_bits); (with_reducible refine hK _ ?_); clear hK K)
              (with_reducible refine wpStill_nil ?_)
              go_wp2_with fail
              refine (KX.out _).mono ?_
              rintro e wz ⟨rfl, hbz⟩
              have hz := hide (HR.out.drew.trans (hbz.mono (by have := HR.out.size; simpa using this)))
              clear y2 c0 c1 c2' c3 ci r0 r1 r2 r3 hbz
              go_wp2
              go_roundw
              case rel => exact ⟨k + 1, by omega, by go_num, H6'.out, hz.out⟩
              case measure => simp [nI]; omega
          · have hR := hide (show R = false by rw [hE.out, H6.out]; simp [hitsAt, List.getElem?_eq_none (show bl.length ≤ m by omega)])
            have gm : decide ((bl.length : Int) ≤ m) = true := by simp; omega
            clear H6 KC hE HSr hpm
            go_wp2_with fail
            refine wp_still_tail 28 (by kernel_rfl) (by kernel_rfl) ?_
            simp only [List.take_succ_cons, List.take_zero, List.drop_succ_cons, List.drop_zero]
            repeat ((with_reducible refine wpStill_step (fun K hK => ?_)); go_simp; (try go_bits); (with_reducible refine hK _ ?_); clear hK K)
            (with_reducible refine wpStill_nil ?_)
            have hz := hide HB.out.drew
            clear y2 c0 c1 c2' c3 ci
            go_wp2
            exact bodyPost_ret (v := .tuple #[.bool false, .int .i64 0]) (by simp [results, Try.results36, go_sem]) rfl ⟨by rw [hR.out], hz.out⟩
      · obtain rfl : k = (places W H bl bw bh).length := by omega
        rw [List.drop_length, HLN.out, List.drop_length] at hq
        have hR := hide (show R = true by rw [hE.out, hq]; rfl)
        clear hE hq hSl b2 hS2 KC hL2
        go_wp2
        exact bodyPost_ret (v := .tuple #[.bool true, .int .i64 0]) (by simp [results, Try.results36, go_sem]) rfl ⟨by rw [hR.out], HB.out⟩
  · have g1 : (((places W H bl bw bh).length : Int) != (l.length : Int)) = true := by rw [bne_iff_ne]; omega
    have hR := hide (hE.out.trans (proves_len hln))
    clear hE hSl b2 hS2 KC hL2 hln
    go_wp2
    exact bodyPost_ret (v := .tuple #[.bool false, .int .i64 0]) (by simp [results, Try.results36, go_sem]) rfl ⟨by rw [hR.out], hB2⟩
end Go.Proofs.Ytchdoamoeccjkaa

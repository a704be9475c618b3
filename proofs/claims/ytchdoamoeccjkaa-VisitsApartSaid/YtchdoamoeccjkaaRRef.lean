/-
  The reference's regions: lies, Check, Error, Hit, Fits, Few, SameInts.
-/
import Derived.Test.YtchdoamoeccjkaaRPlace
namespace Go.Proofs.Ytchdoamoeccjkaa
open Go.RowKit Go.Shelf Go.Mine Go.Mine.R
attribute [local go_sem] Oper.semAt_some

set_option maxRecDepth 100000 in
set_option maxHeartbeats 1000000 in
theorem lies68_any (r : Rc) (W H : Int) (w : World) (hr : I64R r) (hW : pix W = true) (hH : pix H = true) :
    Calls Try.prog 68 #[.int .i64 W, .int .i64 H, rcV r] w fun e w' => e = .returned (.bool (lies W H r)) ∧ Below w.heap.size w w' := by
  rw [pix_iff] at hW hH
  have E := hide (lies_iff (W := W) (H := H) (r := r))
  obtain ⟨rx, ry, rw', rh⟩ := r
  simp only [rcV, I64R] at *
  have K1 := hide (fun w => pixR_any rw' w)
  have K2 := hide (fun w => pixR_any rh w)
  have Q1 := pix_iff (n := rw')
  have Q2 := pix_iff (n := rh)
  generalize lies W H ⟨rx, ry, rw', rh⟩ = v at *
  generalize pix rw' = p1 at *
  generalize pix rh = p2 at *
  unfold i64ok at hr
  by_cases h1 : 0 ≤ rx
  · by_cases h2 : 0 ≤ ry
    · cases p1
      · have H : Hid (v = false) := hide (by rw [← Bool.not_eq_true, E.out]; simp)
        clear E Q1 Q2
        go_enter Try.func68, Try.ntmps68
        go_wp2_with (go_at_call 67; (first | with_reducible refine (K1.out _).mono ?_ | with_reducible refine (K2.out _).mono ?_); rintro e w' ⟨rfl, rfl⟩)
        go_ret
        exact ⟨ret_bool H.out.symm, kalloc (Below.refl _ _) _⟩
      · have Q1' := Q1.1 rfl
        cases p2
        · have H : Hid (v = false) := hide (by rw [← Bool.not_eq_true, E.out]; simp)
          clear E Q1 Q2
          go_enter Try.func68, Try.ntmps68
          go_wp2_with (go_at_call 67; (first | with_reducible refine (K1.out _).mono ?_ | with_reducible refine (K2.out _).mono ?_); rintro e w' ⟨rfl, rfl⟩)
          go_ret
          exact ⟨ret_bool H.out.symm, kalloc (Below.refl _ _) _⟩
        · have Q2' := Q2.1 rfl
          have H : Hid (v = true ↔ (rx ≤ W - rw' ∧ ry ≤ H - rh)) := hide (E.out.trans ⟨fun h => ⟨h.2.2.2.2.1, h.2.2.2.2.2⟩, fun h => ⟨h1, h2, rfl, rfl, h.1, h.2⟩⟩)
          clear E Q1 Q2
          by_cases h4 : rx ≤ W - rw'
          all_goals
            go_enter Try.func68, Try.ntmps68
            go_wp2_with (go_at_call 67; (first | with_reducible refine (K1.out _).mono ?_ | with_reducible refine (K2.out _).mono ?_); rintro e w' ⟨rfl, rfl⟩)
            go_ret
            exact ⟨ret_bool (by rw [Bool.eq_iff_iff]; rw [H.out]; first | omega | (simp; done) | (simp; omega)), kalloc (Below.refl _ _) _⟩
    · have H : Hid (v = false) := hide (by rw [← Bool.not_eq_true, E.out]; omega)
      clear E Q1 Q2 K1 K2
      go_enter Try.func68, Try.ntmps68
      go_wp2
      go_ret
      exact ⟨ret_bool H.out.symm, kalloc (Below.refl _ _) _⟩
  · have H : Hid (v = false) := hide (by rw [← Bool.not_eq_true, E.out]; omega)
    clear E Q1 Q2 K1 K2
    go_enter Try.func68, Try.ntmps68
    go_wp2
    go_ret
    exact ⟨ret_bool H.out.symm, kalloc (Below.refl _ _) _⟩
set_option maxRecDepth 100000 in
set_option maxHeartbeats 2000000 in
theorem hit64_any (W H : Int) (A : Option Addr) (c : Nat) (bl : List Rc) (b : Rc) (w : World) (hS : Sl rcC 4 w A c bl) (hB : ∀ r ∈ bl, RcS r) (hb : RcS b) :
    Calls Try.prog 64 #[scV W H A bl.length c, rcV b] w fun e w' => e = .returned (.int .i64 (hitAt bl b 0)) ∧ Below w.heap.size w w' := by
  have hlc := hS.le
  have hc := hS.max
  have K := hide (fun r hr w => common_any b r w hb (hB r hr))
  have hS2 := (hS.alloc (.cells #[.int .i64 W, .int .i64 H, .slice A bl.length c] 45)).alloc (.cells #[.int .i64 b.x, .int .i64 b.y, .int .i64 b.w, .int .i64 b.h] 86)
  have b0 : Blk ((w.alloc (.cells #[.int .i64 W, .int .i64 H, .slice A bl.length c] 45)).alloc (.cells #[.int .i64 b.x, .int .i64 b.y, .int .i64 b.w, .int .i64 b.h] 86)) w.heap.size 45 (scC W H A bl.length c) := (Blk.new w _ _).alloc _
  have b1 : Blk ((w.alloc (.cells #[.int .i64 W, .int .i64 H, .slice A bl.length c] 45)).alloc (.cells #[.int .i64 b.x, .int .i64 b.y, .int .i64 b.w, .int .i64 b.h] 86)) (w.heap.size + 1) 86 #[.int .i64 b.x, .int .i64 b.y, .int .i64 b.w, .int .i64 b.h] := Blk.new1 w _ _ _
  have hb2 : Below w.heap.size w ((w.alloc (.cells #[.int .i64 W, .int .i64 H, .slice A bl.length c] 45)).alloc (.cells #[.int .i64 b.x, .int .i64 b.y, .int .i64 b.w, .int .i64 b.h] 86)) := kalloc (kalloc (Below.refl _ _) _) _
  simp only [scV, rcV] at K ⊢
  clear hS
  go_enter Try.func64, Try.ntmps64
  go_wp2
  generalize (w.alloc (.cells #[.int .i64 W, .int .i64 H, .slice A bl.length c] 45)).alloc (.cells #[.int .i64 b.x, .int .i64 b.y, .int .i64 b.w, .int .i64 b.h] 86) = w2 at *
  go_loopw [5] (fun i wr => ∃ k : Nat, k ≤ bl.length ∧ i = .int .i64 k ∧ hitAt bl b 0 = hitAt (bl.drop k) b k ∧ Below w2.heap.size w2 wr) (fun i _ => bl.length - (nI i).toNat)
  case atStart => exact ⟨0, Nat.zero_le _, rfl, rfl, Below.refl _ _⟩
  case round =>
    obtain ⟨k, hk, rfl, hq, hbr⟩ := hrel
    have d0 := b0.bel hbr
    have d1 := b1.bel hbr
    have y2 := d0.cell (v := .slice A bl.length c) 2 rfl
    have yl := d0.lt
    have HB := hide (hb2.trans (hbr.mono hb2.size))
    by_cases hlt : k < bl.length
    · obtain ⟨r, bb, off, hx, hdr, rfl, hbw, c0, c1, c2, c3⟩ := Sl.rc_at (hS2.bel hbr) hlt
      rw [hdr, hitAt_cons] at hq
      have KX := hide (K.out r (List.mem_of_getElem? hx))
      generalize hit b r = v at KX hq
      have H := hide hq
      have HR := hide hbr
      have q2 := BW.get yl y2
      have m0 := BW.get d1.lt (d1.cell (v := .int .i64 b.x) 0 rfl)
      have m1 := BW.get d1.lt (d1.cell (v := .int .i64 b.y) 1 rfl)
      have m2 := BW.get d1.lt (d1.cell (v := .int .i64 b.w) 2 rfl)
      have m3 := BW.get d1.lt (d1.cell (v := .int .i64 b.h) 3 rfl)
      have n0 := BW.get hbw c0
      have n1 := BW.get hbw c1
      have n2 := BW.get hbw c2
      have n3 := BW.get hbw c3
      clear hdr hx hS2 hB hb hq hbr b0 b1 d0 d1 K c0 c1 c2 c3 hb2
      cases v
      · simp only [Bool.false_eq_true, if_false] at H
        go_wp2_with fail
        refine wp_quiet_below (by kernel_rfl) (by kernel_rfl) ?_
        repeat (go_big_quiet_step ((go_at_call 70; exact quiet_below (KX.out _))))
        refine wpQuiet_nil ?_
        rintro _ ⟨z, rfl⟩
        have hz := hide (HR.out.trans (z.below.mono HR.out.size))
        clear q2 m0 m1 m2 m3 n0 n1 n2 n3
        go_wp2
        go_roundw
        case rel => exact ⟨k + 1, by omega, by go_num, H.out, hz.out⟩
        case measure => simp [nI]; omega
      · simp only [if_true] at H
        go_wp2_with fail
        refine wp_quiet_below (by kernel_rfl) (by kernel_rfl) ?_
        repeat (go_big_quiet_step ((go_at_call 70; exact quiet_below (KX.out _))))
        refine wpQuiet_nil ?_
        rintro _ ⟨z, rfl⟩
        have hz := hide (HB.out.trans (z.below.mono HB.out.size))
        clear q2 m0 m1 m2 m3 n0 n1 n2 n3
        go_wp2
        go_ret
        exact ⟨ret_int H.out.symm, hz.out⟩
    · rw [List.drop_of_length_le (by omega)] at hq
      have H := hide hq
      clear hq hS2 K
      go_wp2
      go_ret
      exact ⟨ret_int H.out.symm, HB.out⟩
end Go.Proofs.Ytchdoamoeccjkaa

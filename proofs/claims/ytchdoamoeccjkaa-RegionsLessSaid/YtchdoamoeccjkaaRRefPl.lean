/-
  The reference's critical places.
-/
import Derived.Test.YtchdoamoeccjkaaRPut
namespace Go.Proofs.Ytchdoamoeccjkaa
open Go.RowKit Go.Shelf Go.Mine Go.Mine.R
attribute [local go_sem] Oper.semAt_some

def boxes (bw bh : Int) (ps : List (Int × Int)) : List Rc := ps.map fun p => ⟨p.1, p.2, bw, bh⟩
theorem Try_info86 : (Try.prog.info? 86).map (fun i => (i.zero, i.size, i.bytes)) = some (some (.agg #[.int .i64 0, .int .i64 0, .int .i64 0, .int .i64 0]), 4, 32) := by kernel_rfl
theorem rowsL_snoc (H h : Int) (bl : List Rc) (r : Rc) : rowsL H h (bl ++ [r]) = putIn (H - h) (rowsL H h bl) (r.y - h) := by simp [rowsL, List.foldl_append]
theorem colsL_snoc (W w : Int) (bl : List Rc) (r : Rc) : colsL W w (bl ++ [r]) = putIn (W - w) (colsL W w bl) (r.x + r.w) := by simp [colsL, List.foldl_append]
theorem rowsL_nil (H h : Int) : putIn (H - h) [] (H - h) = rowsL H h [] := rfl
theorem colsL_nil (W w : Int) : putIn (W - w) [] 0 = colsL W w [] := rfl
/-- the places of some rows -/
def plOf (C rs : List Int) : List (Int × Int) := rs.flatMap fun y => C.map fun x => (x, y)
theorem plOf_snoc (C rs : List Int) (y : Int) : plOf C (rs ++ [y]) = plOf C rs ++ C.map (fun x => (x, y)) := by simp [plOf]
theorem plOf_all (W H : Int) (bl : List Rc) (w h : Int) : plOf (colsL W w bl) (rowsL H h bl).reverse = places W H bl w h := rfl
theorem plOf_length (C rs : List Int) : (plOf C rs).length = rs.length * C.length := flat_len _ _ (fun x => by simp) rs
theorem boxes_snoc (bw bh : Int) (ps : List (Int × Int)) (p : Int × Int) : boxes bw bh (ps ++ [p]) = boxes bw bh ps ++ [⟨p.1, p.2, bw, bh⟩] := by simp [boxes]
theorem boxes_length (bw bh : Int) (ps : List (Int × Int)) : (boxes bw bh ps).length = ps.length := by simp [boxes]
set_option maxRecDepth 100000 in
set_option maxHeartbeats 4000000 in
theorem places63_any (W H : Int) (A : Option Addr) (c : Nat) (bl : List Rc) (bw bh : Int) (w : World) (hS : Sl rcC 4 w A c bl) (hB : ∀ r ∈ bl, RcS r) (iW : I14 W) (iH : I14 H) (iw : I14 bw) (ih : I14 bh) (hl : bl.length ≤ 40) :
    Calls Try.prog 63 #[scV W H A bl.length c, .int .i64 bw, .int .i64 bh] w fun e w' => ∃ A2 c2, e = .returned (.slice A2 (places W H bl bw bh).length c2) ∧ Sl rcC 4 w' A2 c2 (boxes bw bh (places W H bl bw bh)) ∧ Below w.heap.size w w' := by
  have hlc := hS.le
  have hc := hS.max
  have K := hide (fun b o c l n most w hS hs hl => put87_any b o c l n most w hS hs hl)
  unfold I14 at iW iH iw ih
  have y0 := (Blk.new w (scC W H A bl.length c) 45).cell (v := .int .i64 W) 0 rfl
  have y1 := (Blk.new w (scC W H A bl.length c) 45).cell (v := .int .i64 H) 1 rfl
  simp only [scV, scC] at *
  go_enter Try.func63, Try.ntmps63
  go_wp2_with fail
  refine (K.out (w.heap.size + 1) 0 0 [] _ _ _ (Sl.nil (by omega)) (by simp) (by simp)).mono ?_
  rintro e w1 ⟨b1, o1, c1, rfl, hR1, hb1⟩
  rw [rowsL_nil] at hR1 ⊢
  have d1 := ((Blk.new w #[.int .i64 W, .int .i64 H, .slice A bl.length c] 45).alloc (.cells #[] 3)).bel hb1
  have hB1 := kcall (kalloc (kalloc (Below.refl _ w) (.cells #[.int .i64 W, .int .i64 H, .slice A bl.length c] 45)) (.cells #[] 3)) hb1
  have z0 := d1.cell (v := .int .i64 W) 0 rfl
  have zl := d1.lt
  clear hb1 y0 y1
  go_wp2_with fail
  refine (K.out w1.heap.size 0 0 [] _ _ _ (Sl.nil (by omega)) (by simp) (by simp)).mono ?_
  rintro e w2 ⟨b2, o2, c2, rfl, hC1, hb2⟩
  rw [colsL_nil] at hC1 ⊢
  have d2 := (d1.alloc (.cells #[] 3)).bel hb2
  have hB2 := kcall (kalloc hB1 (.cells #[] 3)) hb2
  have hR2 := (hR1.alloc (.cells #[] 3)).bel hb2
  clear hb2 z0 d1 hB1 hR1 zl
  go_wp2
  go_loopw [7, 8, 9] (fun u v i wr => ∃ (k b1 o1 c1 b2 o2 c2 : Nat), k ≤ bl.length ∧ i = .int .i64 k ∧ u = .slice (some ⟨b1, o1, none⟩) (rowsL H bh (bl.take k)).length c1 ∧ v = .slice (some ⟨b2, o2, none⟩) (colsL W bw (bl.take k)).length c2 ∧ Sl ic 1 wr (some ⟨b1, o1, none⟩) c1 (rowsL H bh (bl.take k)) ∧ Sl ic 1 wr (some ⟨b2, o2, none⟩) c2 (colsL W bw (bl.take k)) ∧ Blk wr w.heap.size 45 #[.int .i64 W, .int .i64 H, .slice A bl.length c] ∧ Below w.heap.size w wr) (fun _ _ i _ => bl.length - (nI i).toNat)
  case atStart => exact ⟨0, b1, o1, c1, b2, o2, c2, Nat.zero_le _, rfl, rfl, rfl, hR2, hC1, d2, hB2⟩
  case round =>
    obtain ⟨k, b1, o1, c1, b2, o2, c2, hk, rfl, rfl, rfl, hRk, hCk, dk, hBk⟩ := hrel
    have hrl := rowsL_length H bh (bl.take k)
    have hcl := colsL_length W bw (bl.take k)
    have htk : (bl.take k).length ≤ 40 := Nat.le_trans (List.length_take_le' _ _) hl
    have z0 := dk.cell (v := .int .i64 W) 0 rfl
    have z1 := dk.cell (v := .int .i64 H) 1 rfl
    have z2 := dk.cell (v := .slice A bl.length c) 2 rfl
    have zl := dk.lt
    by_cases hlt : k < bl.length
    · obtain ⟨r, bb, off, hx, hdr, rfl, hbw, c0, c1', c2', c3⟩ := Sl.rc_at (hS.bel hBk) hlt
      obtain ⟨r1, r2, r3, r4⟩ := hB r (List.mem_of_getElem? hx)
      unfold I14 at r1 r2 r3 r4
      have e1 := hide (show rowsL H bh (bl.take (k + 1)) = putIn (H - bh) (rowsL H bh (bl.take k)) (r.y - bh) by rw [take_of_get hx, rowsL_snoc])
      have e2 := hide (show colsL W bw (bl.take (k + 1)) = putIn (W - bw) (colsL W bw (bl.take k)) (r.x + r.w) by rw [take_of_get hx, colsL_snoc])
      have KR := hide (K.out b1 o1 c1 _ (r.y - bh) (H - bh) _ hRk.drew (rows_sorted _ _ _) (by omega))
      have KC := hide fun w3 hS => K.out b2 o2 c2 _ (r.x + r.w) (W - bw) w3 hS (cols_sorted W bw (bl.take k)) (by omega)
      have HCk := hide hCk
      have Hdk := hide dk
      have HBk := hide hBk
      generalize rowsL H bh (bl.take k) = R0 at *
      generalize colsL W bw (bl.take k) = C0 at *
      clear hdr hx hRk hCk dk hBk hC1 hR2 d2 hB2 hS hB hrl hcl
      go_wp2_with fail
      refine wp_still_tail 13 (by kernel_rfl) (by kernel_rfl) ?_
      simp only [List.take_succ_cons, List.take_zero, List.drop_succ_cons, List.drop_zero]
      repeat ((with_reducible refine wpStill_step (fun K hK => ?_)); go_simp; (try go_bits); (with_reducible refine hK _ ?_); clear hK K)
      (with_reducible refine wpStill_nil ?_)
      go_wp2_with fail
      refine KR.out.mono ?_
      rintro e w3 ⟨b3, o3, c4, rfl, hR3, hb3⟩
      have HB3 := hide (kcall HBk.out.drew hb3)
      have d3 := Hdk.out.drew.bel hb3
      have hC3 := HCk.out.drew.bel hb3
      have f0 := (hb3.cell (p := ⟨bb, off + k * 4, none⟩) hbw).trans c0
      have f2 := (hb3.cell (p := ⟨bb, off + k * 4 + 2, none⟩) hbw).trans c2'
      have g0 := d3.cell (v := .int .i64 W) 0 rfl
      have g2 := d3.cell (v := .slice (some ⟨bb, off, none⟩) bl.length c) 2 rfl
      have gl := d3.lt
      have KC2 := hide (KC.out w3.drew hC3.drew)
      have HR3 := hide hR3
      have hbw3 : bb < w3.heap.size := Nat.lt_of_lt_of_le hbw hb3.size
      clear KR HCk Hdk HBk hb3 hC3 hR3 c0 c1' c2' c3 z0 z1 z2 zl hbw
      go_wp2_with fail
      refine wp_still_tail 18 (by kernel_rfl) (by kernel_rfl) ?_
      simp only [List.take_succ_cons, List.take_zero, List.drop_succ_cons, List.drop_zero]
      repeat ((with_reducible refine wpStill_step (fun K hK => ?_)); go_simp; (try go_bits); (with_reducible refine hK _ ?_); clear hK K)
      (with_reducible refine wpStill_nil ?_)
      go_wp2_with fail
      refine KC2.out.mono ?_
      rintro e w5 ⟨b5, o5, c5, rfl, hC5, hb5⟩
      have HB5 := hide (kcall HB3.out.drew hb5)
      have D5 := hide (d3.drew.bel hb5)
      have R5 := hide (HR3.out.drew.bel hb5)
      have C5 := hide hC5
      clear f0 f2 g0 g2 gl hb5 hC5 HR3 d3 HB3 KC KC2
      go_wp2
      go_roundw
      case rel => exact ⟨k + 1, b3, o3, c4, b5, o5, c5, by omega, by go_num, by rw [e1.out], by rw [e2.out], by rw [e1.out]; exact R5.out, by rw [e2.out]; exact C5.out, D5.out, HB5.out⟩
      case measure => simp [nI]; omega
    · obtain rfl : k = bl.length := by omega
      rw [List.take_length] at hRk hCk hrl hcl ⊢
      have hfin := hide (plOf_all W H bl bw bh)
      have HR := hide hRk
      have HC := hide hCk
      have HB := hide hBk
      obtain ⟨w6, hw6⟩ : ∃ x, x = wr := ⟨_, rfl⟩
      subst hw6
      generalize rowsL H bh bl = RL at *
      generalize colsL W bw bl = CL at *
      obtain ⟨i0, hi, hi0, hi1, hi2⟩ := info_parts Try_info86
      have HI := hide hi
      have r_le := hRk.le
      have r_max := hRk.max
      have c_le := hCk.le
      have c_max := hCk.max
      clear hRk hCk dk hBk hC1 hR2 d2 hB2 hS hB z0 z1 hi K
      have hRL41 : RL.length ≤ 41 := by omega
      have hCL41 : CL.length ≤ 41 := by omega
      go_wp2
      clear z2 zl
      go_loopw [10, 11] (fun v i wq => ∃ k : Nat, k ≤ RL.length ∧ i = .int .i64 ((RL.length : Int) - 1 - k) ∧ OwnL rcC 4 86 wq w6.heap.size v (boxes bw bh (plOf CL (RL.reverse.take k))) ∧ Below w6.heap.size w6 wq) (fun _ i _ => (nI i + 1).toNat)
      case atStart => exact ⟨0, Nat.zero_le _, by go_num, OwnL.fresh w6 (Nat.le_refl _), kalloc (Below.refl _ _) _⟩
      case round =>
        obtain ⟨k, hk, rfl, hO, hbq⟩ := hrel
        by_cases hlt : k < RL.length
        · obtain ⟨j, hj⟩ : ∃ j : Nat, k + j + 1 = RL.length := ⟨RL.length - 1 - k, by omega⟩
          have hje : (RL.length : Int) - 1 - k = j := by omega
          rw [hje]
          obtain ⟨y, by_, oy, hy, hdy, hAy, hbyw, cy⟩ := Sl.ic_at HR.out (show j < RL.length by omega)
          simp only [Option.some.injEq, Addr.mk.injEq, and_true] at hAy
          obtain ⟨rfl, rfl⟩ := hAy
          have hyr : RL.reverse[k]? = some y := by rw [List.getElem?_reverse (by omega), show RL.length - 1 - k = j by omega]; exact hy
          have hsn := hide (show plOf CL (RL.reverse.take (k + 1)) = plOf CL (RL.reverse.take k) ++ CL.map (fun x => (x, y)) by rw [take_of_get hyr, plOf_snoc])
          have hPl : (plOf CL (RL.reverse.take k)).length ≤ 1681 := by
            rw [plOf_length]
            exact Nat.le_trans (Nat.mul_le_mul (show _ ≤ 41 by simp; omega) hCL41) (by decide)
          have hjl : (j : Int) < RL.length := by omega
          have g0 : decide (0 ≤ (j : Int)) = true := by simp
          generalize plOf CL (RL.reverse.take k) = P at *
          obtain ⟨w7, hw7⟩ : ∃ x, x = wr := ⟨_, rfl⟩
          subst hw7
          have HO := hide hO
          have HBq := hide hbq
          have cy2 := hide cy
          clear hO hbq hy hdy hyr hje
          go_wp2
          go_loopw [10, 12] (fun v i wz => ∃ q : Nat, q ≤ CL.length ∧ i = .int .i64 q ∧ OwnL rcC 4 86 wz w6.heap.size v (boxes bw bh (P ++ (CL.take q).map (fun x => (x, y)))) ∧ Below w6.heap.size w6 wz) (fun _ i _ => CL.length - (nI i).toNat)
          case atStart => exact ⟨0, Nat.zero_le _, rfl, by simpa using HO.out, HBq.out⟩
          case round =>
            obtain ⟨q, hq, rfl, hO, hbz⟩ := hrel
            by_cases hlq : q < CL.length
            · obtain ⟨x, bx, ox, hx, hdx, hAx, hbxw, cx⟩ := Sl.ic_at HC.out hlq
              simp only [Option.some.injEq, Addr.mk.injEq, and_true] at hAx
              obtain ⟨rfl, rfl⟩ := hAx
              have hsq := hide (show P ++ (CL.take (q + 1)).map (fun x => (x, y)) = (P ++ (CL.take q).map (fun x => (x, y))) ++ [(x, y)] by rw [take_of_get hx]; simp)
              have hlen : (boxes bw bh (P ++ (CL.take q).map (fun x => (x, y)))).length ≤ 1722 := by simp [boxes]; omega
              have cx' := (hbz.cell (p := ⟨b2, o2 + q, none⟩) hbxw).trans cx
              have cy' := (hbz.cell (p := ⟨b1, o1 + j, none⟩) hbyw).trans cy2.out
              generalize P ++ (CL.take q).map (fun x => (x, y)) = Q at *
              have HO2 := hide hO
              have HBz := hide hbz
              have hN := hbz.size
              clear hO hbz hx hdx cx HO HBq hsn
              go_wp2_with fail
              have h1c : ∀ z ∈ [(⟨x, y, bw, bh⟩ : Rc)], ∀ u ∈ rcC z, u.oneCell' = true := by
                intro z hz u hu
                simp only [List.mem_singleton] at hz
                subst hz
                simp [rcC] at hu
                rcases hu with rfl | rfl | rfl | rfl <;> rfl
              go_region_held3 (fun w' => w'.cell? ⟨b2, o2 + q, none⟩ = some (.int .i64 x) ∧ w'.cell? ⟨b1, o1 + j, none⟩ = some (.int .i64 y)) (first | exact ⟨cx', cy'⟩ | exact ⟨f1, f2⟩ | go_keep)
                (first
                  | (refine step_append (u := .slice (some ⟨wr.heap.size, 0, none⟩) 1 1) rfl (.tmp 83) (.tmp 95) 43 rfl rfl rfl (run_extend (f := rcC) (base := w6.heap.size) (l1 := boxes bw bh Q) (l2 := [(⟨x, y, bw, bh⟩ : Rc)]) Try.underlying43 HI.out hi0 hi1 hi2 rfl (by decide) (HO2.out.alloc _).drew (Sl.one (Blk.drew (Blk.new' rfl)) rfl rfl (by decide) (by decide)) h1c (by simp only [maxLen, List.length_cons, List.length_nil]; omega) (by simp only [List.length_cons, List.length_nil]; omega) (by simp; omega)) ?_
                     rintro v6 wn ⟨gO, gG, gB⟩
                     have f1 := gcell (b := b2) (o := o2 + q) gG (by simp; omega) (fun e => by have := (HO2.out.blk e.symm).1; omega) (((kalloc (Below.refl wr.heap.size wr) (.cells #[.int .i64 x, .int .i64 y, .int .i64 bw, .int .i64 bh] 86)).drew.cell (p := ⟨b2, o2 + q, none⟩) (show b2 < wr.heap.size by omega)).trans cx')
                     have f2 := gcell (b := b1) (o := o1 + j) gG (by simp; omega) (fun e => by have := (HO2.out.blk e.symm).1; omega) (((kalloc (Below.refl wr.heap.size wr) (.cells #[.int .i64 x, .int .i64 y, .int .i64 bw, .int .i64 bh] 86)).drew.cell (p := ⟨b1, o1 + j, none⟩) (show b1 < wr.heap.size by omega)).trans cy')))
              have hb6 := hide (Below.grown (kalloc HBz.out (.cells #[.int .i64 x, .int .i64 y, .int .i64 bw, .int .i64 bh] 86)).drew gG (by simp; omega) (fun g hg => (HO2.out.blk hg).1))
              rw [show boxes bw bh Q ++ [(⟨x, y, bw, bh⟩ : Rc)] = boxes bw bh (Q ++ [(x, y)]) from (boxes_snoc bw bh Q (x, y)).symm, ← hsq.out] at gO
              have HO6 := hide gO
              clear gO gG gB cx' cy' HO2
              go_wp2
              go_roundw
              case rel => exact ⟨q + 1, by omega, by go_num, HO6.out, hb6.out⟩
              case measure => simp [nI]; omega
            · obtain rfl : q = CL.length := by omega
              rw [List.take_length, ← hsn.out] at hO
              have HO2 := hide hO
              have HBz := hide hbz
              clear hO hbz HO HBq hsn
              go_wp2
              go_roundw
              case rel => exact ⟨k + 1, by omega, by go_num, HO2.out, HBz.out⟩
              case measure => (first | (simp [nI]; done) | (simp [nI]; omega))
        · obtain rfl : k = RL.length := by omega
          have hje : (RL.length : Int) - 1 - RL.length = -1 := by omega
          rw [hje]
          rw [show RL.reverse.take RL.length = RL.reverse by rw [← List.length_reverse, List.take_length], hfin.out] at hO
          obtain ⟨A2, cc2, rfl, hSl⟩ := hO.sl
          rw [boxes_length]
          have HSl := hide hSl
          have HBf := hide (kcall HB.out hbq)
          clear hO hSl hbq hfin hje
          go_wp2
          go_ret
          exact ⟨A2, cc2, rfl, HSl.out, HBf.out⟩
end Go.Proofs.Ytchdoamoeccjkaa

/-
  RegionsLowest's walk.
-/
import Derived.Test.YtchdoamoeccjkaaRLaw
namespace Go.Proofs.Ytchdoamoeccjkaa
open Go.RowKit Go.Shelf Go.Mine Go.Mine.R
attribute [local go_sem] Oper.semAt_some
set_option maxRecDepth 100000 in
set_option maxHeartbeats 4000000 in
theorem lowest_bad (W H : Int) (A : Option Addr) (c : Nat) (bl : List Rc) (bw bh x y : Int) (w : World) (hS : Sl rcC 4 w A c bl) (hI : ∀ r ∈ bl, I64R r) (h : few46 bl = false ∨ (few46 bl = true ∧ chkA W H bl bw bh ≠ 0)) : Calls Try.prog 10 #[scV W H A bl.length c, .int .i64 bw, .int .i64 bh, .int .i64 x, .int .i64 y] w fun e w' => e = .returned (.bool true) ∧ Below w.heap.size w w' := by
  have hlc := hS.le
  have hc := hS.max
  have KS := hide sane27_any
  have KF := hide (fun w => few28_any W H A c bl w (by omega))
  have KE := hide (fun w (hS : Sl rcC 4 w A c bl) => refError38_any W H A c bl bw bh w hS hI)
  have b9 := Blk.new w #[.int .i64 W, .int .i64 H, .slice A bl.length c] 45
  have B9 : Below w.heap.size w (w.alloc (.cells #[.int .i64 W, .int .i64 H, .slice A bl.length c] 45)) := kalloc (Below.refl _ _) _
  have S9 := hS.alloc (.cells #[.int .i64 W, .int .i64 H, .slice A bl.length c] 45)
  simp only [scV] at KE KF ⊢
  generalize chkA W H bl bw bh = s at *
  generalize few46 bl = fw at *
  clear hS hI
  go_enter Try.func10, Try.ntmps10
  go_wp2_with fail
  generalize w.alloc (.cells #[.int .i64 W, .int .i64 H, .slice A bl.length c] 45) = w0 at *
  refine (KS.out _).mono ?_
  rintro e wn ⟨rfl, hbn⟩
  (replace b9 := b9.bel hbn; replace B9 := kcall B9 hbn; replace S9 := S9.bel hbn; clear hbn)
  (have y0 := b9.cell (v := .int .i64 W) 0 rfl; have y1 := b9.cell (v := .int .i64 H) 1 rfl; have y2 := b9.cell (v := .slice A bl.length c) 2 rfl)
  go_wp2_with fail
  refine (KF.out _).mono ?_
  rintro e wn ⟨rfl, hbn⟩
  (clear y0 y1 y2; (replace b9 := b9.bel hbn; replace B9 := kcall B9 hbn; replace S9 := S9.bel hbn; clear hbn); (have y0 := b9.cell (v := .int .i64 W) 0 rfl; have y1 := b9.cell (v := .int .i64 H) 1 rfl; have y2 := b9.cell (v := .slice A bl.length c) 2 rfl))
  rcases h with rfl | ⟨rfl, hs⟩
  · have HB := hide B9
    clear B9 S9 b9
    go_wp2
    go_ret
    exact ⟨rfl, HB.out⟩
  · have hsn : (s != 0) = true := by simpa using hs
    go_wp2_with fail
    refine (KE.out _ S9).mono ?_
    rintro e wn ⟨rfl, hbn⟩
    have HB := hide (kcall B9 hbn)
    clear B9 S9 b9 hbn y0 y1 y2
    go_wp2
    go_ret
    exact ⟨rfl, HB.out⟩
set_option maxRecDepth 100000 in
set_option maxHeartbeats 8000000 in
theorem lowest_good (W H : Int) (A : Option Addr) (c : Nat) (bl : List Rc) (bw bh x y : Int) (w : World) (hS : Sl rcC 4 w A c bl) (hI : ∀ r ∈ bl, I64R r) (hx : i64ok x) (hy : i64ok y) (hf : few46 bl = true) (hz : chkA W H bl bw bh = 0) : Calls Try.prog 10 #[scV W H A bl.length c, .int .i64 bw, .int .i64 bh, .int .i64 x, .int .i64 y] w fun e w' => e = .returned (.bool true) ∧ Below w.heap.size w w' := by
  have hlc := hS.le
  have hc := hS.max
  have G := chkA_zero hz
  have pW := pix_iff.2 G.W_
  have pH := pix_iff.2 G.H_
  obtain ⟨gW, gW'⟩ := G.W_
  obtain ⟨gH, gH'⟩ := G.H_
  obtain ⟨gw, gw'⟩ := G.w_
  obtain ⟨gh, gh'⟩ := G.h_
  have ibw : i64ok bw := by unfold i64ok; omega
  have ibh : i64ok bh := by unfold i64ok; omega
  have KS := hide sane27_any
  have KF := hide (fun w => few28_any W H A c bl w (by omega))
  have KE := hide (fun w (hS : Sl rcC 4 w A c bl) => refError38_any W H A c bl bw bh w hS hI)
  have K29 := hide (fun w (hS : Sl rcC 4 w A c bl) => place29_any W H A c bl bw bh w hS hI)
  have K39 := hide (fun x y hx hy w (hS : Sl rcC 4 w A c bl) => fits39_any W H A c bl bw bh x y w hS G.rcs pW pH hx hy ibw ibh)
  have hR : ∃ a b ok, placeR W H bl bw bh = (a, b, ok, 0) ∧ (∀ x y, fitsB W H bl bw bh x y = true → ok = true ∧ (y < b ∨ y = b ∧ a ≤ x)) ∧ (ok = true → fitsB W H bl bw bh a b = true ∧ 0 ≤ a ∧ a < W ∧ 0 ≤ b ∧ b < H) := by
    cases hp : place W H bl bw bh with
    | none => exact ⟨0, 0, false, placeR_none hz hp, fun x y h => (by rw [fits_none hz hp] at h; cases h), by simp⟩
    | some p =>
      refine ⟨p.1, p.2, true, placeR_some hz hp, fun x y h => ⟨rfl, ?_⟩, fun _ => ⟨fits_place hz hp, ?_⟩⟩
      · obtain ⟨q, h1, h2⟩ := place_best ((fitsB_iff (pix_iff.2 G.w_) (pix_iff.2 G.h_)).1 h)
        rw [hp] at h1
        obtain rfl := Option.some.inj h1
        exact h2
      · obtain ⟨h1, h2, h3, h4, _⟩ := place_fit hp
        omega
  obtain ⟨a, b, ok, hRe, hq1, hq2⟩ := hR
  rw [hf] at KF
  rw [hz] at KE
  rw [hRe] at K29
  have HQ1 := hide hq1
  have HQ2 := hide hq2
  have b9 := Blk.new w #[.int .i64 W, .int .i64 H, .slice A bl.length c] 45
  have B9 : Below w.heap.size w (w.alloc (.cells #[.int .i64 W, .int .i64 H, .slice A bl.length c] 45)) := kalloc (Below.refl _ _) _
  have S9 := hS.alloc (.cells #[.int .i64 W, .int .i64 H, .slice A bl.length c] 45)
  simp only [scV, placeV] at KE KF K29 K39 ⊢
  generalize hFF : fitsB W H bl bw bh = F at *
  clear hS hI hf hz G pW pH ibw ibh hRe hq1 hq2 hFF
  have K39x := hide (K39.out x y hx hy)
  have HF := hide (HQ1.out x y)
  generalize F x y = fxy at K39x HF
  go_enter Try.func10, Try.ntmps10
  go_wp2_with fail
  generalize w.alloc (.cells #[.int .i64 W, .int .i64 H, .slice A bl.length c] 45) = w0 at *
  refine (KS.out _).mono ?_
  rintro e wn ⟨rfl, hbn⟩
  (replace b9 := b9.bel hbn; replace B9 := kcall B9 hbn; replace S9 := S9.bel hbn; clear hbn)
  (have y0 := b9.cell (v := .int .i64 W) 0 rfl; have y1 := b9.cell (v := .int .i64 H) 1 rfl; have y2 := b9.cell (v := .slice A bl.length c) 2 rfl)
  go_wp2_with fail
  refine (KF.out _).mono ?_
  rintro e wn ⟨rfl, hbn⟩
  (clear y0 y1 y2; (replace b9 := b9.bel hbn; replace B9 := kcall B9 hbn; replace S9 := S9.bel hbn; clear hbn); (have y0 := b9.cell (v := .int .i64 W) 0 rfl; have y1 := b9.cell (v := .int .i64 H) 1 rfl; have y2 := b9.cell (v := .slice A bl.length c) 2 rfl))
  go_wp2_with fail
  refine (KE.out _ S9).mono ?_
  rintro e wn ⟨rfl, hbn⟩
  (clear y0 y1 y2; (replace b9 := b9.bel hbn; replace B9 := kcall B9 hbn; replace S9 := S9.bel hbn; clear hbn); (have y0 := b9.cell (v := .int .i64 W) 0 rfl; have y1 := b9.cell (v := .int .i64 H) 1 rfl; have y2 := b9.cell (v := .slice A bl.length c) 2 rfl))
  go_wp2_with fail
  refine (K29.out _ S9).mono ?_
  rintro e wn ⟨rfl, hbn⟩
  (clear y0 y1 y2; (replace b9 := b9.bel hbn; replace B9 := kcall B9 hbn; replace S9 := S9.bel hbn; clear hbn); (have y0 := b9.cell (v := .int .i64 W) 0 rfl; have y1 := b9.cell (v := .int .i64 H) 1 rfl; have y2 := b9.cell (v := .slice A bl.length c) 2 rfl))
  go_wp2_with fail
  refine (K39x.out _ S9).mono ?_
  rintro e wn ⟨rfl, hbn⟩
  (clear y0 y1 y2; (replace b9 := b9.bel hbn; replace B9 := kcall B9 hbn; replace S9 := S9.bel hbn; clear hbn); (have y0 := b9.cell (v := .int .i64 W) 0 rfl; have y1 := b9.cell (v := .int .i64 H) 1 rfl; have y2 := b9.cell (v := .slice A bl.length c) 2 rfl))
  have HB := hide B9
  clear K39x KS KF KE K29
  cases fxy
  · clear HF
    have Hb := hide b9
    have HS := hide S9
    by_cases hbig : 16 < W ∨ 16 < H
    · by_cases hbw : 16 < W
      · clear b9 S9 B9
        go_wp2
        go_ret
        exact ⟨rfl, HB.out⟩
      · have hbh : 16 < H := by omega
        clear b9 S9 B9
        go_wp2
        go_ret
        exact ⟨rfl, HB.out⟩
    · have hbW : W ≤ 16 := by omega
      have hbH : H ≤ 16 := by omega
      obtain ⟨m, rfl⟩ : ∃ m : Nat, W = m := ⟨W.toNat, by omega⟩
      obtain ⟨n, rfl⟩ : ∃ n : Nat, H = n := ⟨H.toNat, by omega⟩
      clear b9 S9 B9 hbig
      go_wp2
      clear y0 y1 y2
      go_loopw [15] (fun i wr => ∃ k : Nat, k ≤ n ∧ i = .int .i64 ((k : Int) - 1) ∧ (∀ x' y' : Int, (k : Int) ≤ y' → y' < n → 0 ≤ x' → x' < m → F x' y' = false) ∧ Blk wr w.heap.size 45 #[.int .i64 m, .int .i64 n, .slice A bl.length c] ∧ Sl rcC 4 wr A c bl ∧ Below w.heap.size w wr) (fun i _ => (nI i + 1).toNat)
      case atStart => exact ⟨n, Nat.le_refl _, by go_num, fun x' y' h1 h2 => by omega, Hb.out, HS.out, HB.out⟩
      case round =>
        obtain ⟨k, hk, rfl, hno, hb, hs, hB⟩ := hrel
        have Hno := hide hno
        have Hbr := hide hb
        have HSr := hide hs
        have HBr := hide hB
        clear hno hs hB Hb HS HB
        rcases Nat.eq_zero_or_pos k with rfl | hkp
        · have hok : ok = false := by
            cases ok
            · rfl
            · obtain ⟨h1, h2, h3, h4, h5⟩ := HQ2.out rfl
              have := Hno.out a b (by omega) h5 h2 h3
              rw [h1] at this; cases this
          subst hok
          have e0 : ((0 : Nat) : Int) - 1 = -1 := rfl
          rw [e0]
          clear hb
          go_wp2
          go_ret
          exact ⟨rfl, HBr.out⟩
        · obtain ⟨j, rfl⟩ : ∃ j, k = j + 1 := ⟨k - 1, by omega⟩
          have e1 : ((j + 1 : Nat) : Int) - 1 = j := by omega
          rw [e1]
          have g0 : decide (0 ≤ (j : Int)) = true := by simp
          have y0 := hb.cell (v := .int .i64 m) 0 rfl
          have hjn : (j : Int) < n := by omega
          clear hb
          go_wp2
          clear y0
          go_loopw [82] (fun i wz => ∃ q : Nat, q ≤ m ∧ i = .int .i64 q ∧ (∀ x' : Int, 0 ≤ x' → x' < q → F x' j = false) ∧ Blk wz w.heap.size 45 #[.int .i64 m, .int .i64 n, .slice A bl.length c] ∧ Sl rcC 4 wz A c bl ∧ Below w.heap.size w wz) (fun i _ => m - (nI i).toNat)
          case atStart => exact ⟨0, Nat.zero_le _, rfl, fun x' h1 h2 => by omega, Hbr.out, HSr.out, HBr.out⟩
          case round =>
            obtain ⟨q, hq, rfl, hnq, hbz, hsz, hBz⟩ := hrel
            have Hnq := hide hnq
            have Hbz := hide hbz
            have HSz := hide hsz
            have HBz := hide hBz
            clear hnq hsz hBz Hbr HSr HBr
            by_cases hqm : q < m
            · have z0 := hbz.cell (v := .int .i64 m) 0 rfl
              have z1 := hbz.cell (v := .int .i64 n) 1 rfl
              have z2 := hbz.cell (v := .slice A bl.length c) 2 rfl
              have KX := hide (K39.out q j (by unfold i64ok; omega) (by unfold i64ok; omega) wr HSz.out)
              have HX := hide (HQ1.out q j)
              have HN := hide (show F q j = false → ∀ x' : Int, 0 ≤ x' → x' < ((q + 1 : Nat) : Int) → F x' j = false from fun h x' h1 h2 => by
                by_cases h3 : x' < q
                · exact Hnq.out x' h1 h3
                · obtain rfl : x' = q := by omega
                  exact h)
              clear hbz
              generalize F q j = fq at KX HX HN
              go_wp2_with fail
              refine KX.out.mono ?_
              rintro e wn2 ⟨rfl, hbn2⟩
              have Hb3 := hide (Hbz.out.bel hbn2)
              have HS3 := hide (HSz.out.bel hbn2)
              have HB3 := hide (kcall HBz.out hbn2)
              clear hbn2 z0 z1 z2 KX Hbz HSz HBz
              cases fq
              · go_wp2
                go_roundw
                case rel => exact ⟨q + 1, by omega, by go_num, HN.out (by first | rfl | trivial), Hb3.out, HS3.out, HB3.out⟩
                case measure => simp [nI]; omega
              · obtain ⟨hok, hor⟩ := HX.out (by first | rfl | trivial)
                subst hok
                obtain ⟨h1, h2, h3, h4, h5⟩ := HQ2.out (by first | rfl | trivial)
                have hb' : b = j := by
                  rcases hor with h | ⟨h, _⟩
                  · have := Hno.out a b (by omega) h5 h2 h3
                    rw [h1] at this; cases this
                  · exact h.symm
                subst hb'
                have ha' : a = q := by
                  rcases hor with h | ⟨_, h⟩
                  · omega
                  · by_cases h6 : a < q
                    · have := Hnq.out a h2 h6
                      rw [h1] at this; cases this
                    · omega
                subst ha'
                clear h1 h2 h3 h4 h5 hor HX HN
                go_wp2
                go_ret
                exact ⟨ret_bool (by simp), HB3.out⟩
            · obtain rfl : q = m := by omega
              clear hbz
              go_wp2
              go_roundw
              case rel =>
                refine ⟨j, by omega, by go_num, fun x' y' h1 h2 h3 h4 => ?_, Hbz.out, HSz.out, HBz.out⟩
                by_cases h5 : y' = j
                · subst h5; exact Hnq.out x' h3 h4
                · exact Hno.out x' y' (by omega) h2 h3 h4
              case measure => (first | (simp [nI]; done) | (simp [nI]; omega))
  · obtain ⟨rfl, hor⟩ := HF.out rfl
    rcases hor with hor | ⟨hyb, hor⟩
    · have q1 : decide (b < y) = false := by simp; omega
      have q2 : (y == b) = false := by simp; omega
      clear HF
      have Hb := hide b9
      have HS := hide S9
      by_cases hbig : 16 < W ∨ 16 < H
      · by_cases hbw : 16 < W
        · clear b9 S9 B9
          go_wp2
          go_ret
          exact ⟨rfl, HB.out⟩
        · have hbh : 16 < H := by omega
          clear b9 S9 B9
          go_wp2
          go_ret
          exact ⟨rfl, HB.out⟩
      · have hbW : W ≤ 16 := by omega
        have hbH : H ≤ 16 := by omega
        obtain ⟨m, rfl⟩ : ∃ m : Nat, W = m := ⟨W.toNat, by omega⟩
        obtain ⟨n, rfl⟩ : ∃ n : Nat, H = n := ⟨H.toNat, by omega⟩
        clear b9 S9 B9 hbig
        go_wp2
        clear y0 y1 y2
        go_loopw [15] (fun i wr => ∃ k : Nat, k ≤ n ∧ i = .int .i64 ((k : Int) - 1) ∧ (∀ x' y' : Int, (k : Int) ≤ y' → y' < n → 0 ≤ x' → x' < m → F x' y' = false) ∧ Blk wr w.heap.size 45 #[.int .i64 m, .int .i64 n, .slice A bl.length c] ∧ Sl rcC 4 wr A c bl ∧ Below w.heap.size w wr) (fun i _ => (nI i + 1).toNat)
        case atStart => exact ⟨n, Nat.le_refl _, by go_num, fun x' y' h1 h2 => by omega, Hb.out, HS.out, HB.out⟩
        case round =>
          obtain ⟨k, hk, rfl, hno, hb, hs, hB⟩ := hrel
          have Hno := hide hno
          have Hbr := hide hb
          have HSr := hide hs
          have HBr := hide hB
          clear hno hs hB Hb HS HB
          rcases Nat.eq_zero_or_pos k with rfl | hkp
          · exfalso
            obtain ⟨h1, h2, h3, h4, h5⟩ := HQ2.out (by first | rfl | trivial)
            have := Hno.out a b (by omega) h5 h2 h3
            rw [h1] at this; cases this
          · obtain ⟨j, rfl⟩ : ∃ j, k = j + 1 := ⟨k - 1, by omega⟩
            have e1 : ((j + 1 : Nat) : Int) - 1 = j := by omega
            rw [e1]
            have g0 : decide (0 ≤ (j : Int)) = true := by simp
            have y0 := hb.cell (v := .int .i64 m) 0 rfl
            have hjn : (j : Int) < n := by omega
            clear hb
            go_wp2
            clear y0
            go_loopw [82] (fun i wz => ∃ q : Nat, q ≤ m ∧ i = .int .i64 q ∧ (∀ x' : Int, 0 ≤ x' → x' < q → F x' j = false) ∧ Blk wz w.heap.size 45 #[.int .i64 m, .int .i64 n, .slice A bl.length c] ∧ Sl rcC 4 wz A c bl ∧ Below w.heap.size w wz) (fun i _ => m - (nI i).toNat)
            case atStart => exact ⟨0, Nat.zero_le _, rfl, fun x' h1 h2 => by omega, Hbr.out, HSr.out, HBr.out⟩
            case round =>
              obtain ⟨q, hq, rfl, hnq, hbz, hsz, hBz⟩ := hrel
              have Hnq := hide hnq
              have Hbz := hide hbz
              have HSz := hide hsz
              have HBz := hide hBz
              clear hnq hsz hBz Hbr HSr HBr
              by_cases hqm : q < m
              · have z0 := hbz.cell (v := .int .i64 m) 0 rfl
                have z1 := hbz.cell (v := .int .i64 n) 1 rfl
                have z2 := hbz.cell (v := .slice A bl.length c) 2 rfl
                have KX := hide (K39.out q j (by unfold i64ok; omega) (by unfold i64ok; omega) wr HSz.out)
                have HX := hide (HQ1.out q j)
                have HN := hide (show F q j = false → ∀ x' : Int, 0 ≤ x' → x' < ((q + 1 : Nat) : Int) → F x' j = false from fun h x' h1 h2 => by
                  by_cases h3 : x' < q
                  · exact Hnq.out x' h1 h3
                  · obtain rfl : x' = q := by omega
                    exact h)
                clear hbz
                generalize F q j = fq at KX HX HN
                go_wp2_with fail
                refine KX.out.mono ?_
                rintro e wn2 ⟨rfl, hbn2⟩
                have Hb3 := hide (Hbz.out.bel hbn2)
                have HS3 := hide (HSz.out.bel hbn2)
                have HB3 := hide (kcall HBz.out hbn2)
                clear hbn2 z0 z1 z2 KX Hbz HSz HBz
                cases fq
                · go_wp2
                  go_roundw
                  case rel => exact ⟨q + 1, by omega, by go_num, HN.out (by first | rfl | trivial), Hb3.out, HS3.out, HB3.out⟩
                  case measure => simp [nI]; omega
                · obtain ⟨-, hor⟩ := HX.out (by first | rfl | trivial)
                  obtain ⟨h1, h2, h3, h4, h5⟩ := HQ2.out (by first | rfl | trivial)
                  have hb' : b = j := by
                    rcases hor with h | ⟨h, _⟩
                    · have := Hno.out a b (by omega) h5 h2 h3
                      rw [h1] at this; cases this
                    · exact h.symm
                  subst hb'
                  have ha' : a = q := by
                    rcases hor with h | ⟨_, h⟩
                    · omega
                    · by_cases h6 : a < q
                      · have := Hnq.out a h2 h6
                        rw [h1] at this; cases this
                      · omega
                  subst ha'
                  clear h1 h2 h3 h4 h5 hor HX HN
                  go_wp2
                  go_ret
                  exact ⟨ret_bool (by simp), HB3.out⟩
              · obtain rfl : q = m := by omega
                clear hbz
                go_wp2
                go_roundw
                case rel =>
                  refine ⟨j, by omega, by go_num, fun x' y' h1 h2 h3 h4 => ?_, Hbz.out, HSz.out, HBz.out⟩
                  by_cases h5 : y' = j
                  · subst h5; exact Hnq.out x' h3 h4
                  · exact Hno.out x' y' (by omega) h2 h3 h4
                case measure => (first | (simp [nI]; done) | (simp [nI]; omega))
    · have q1 : decide (b < y) = false := by simp; omega
      have q2 : (y == b) = true := by simp [hyb]
      have q3 : decide (x < a) = false := by simp; omega
      clear HF
      have Hb := hide b9
      have HS := hide S9
      by_cases hbig : 16 < W ∨ 16 < H
      · by_cases hbw : 16 < W
        · clear b9 S9 B9
          go_wp2
          go_ret
          exact ⟨rfl, HB.out⟩
        · have hbh : 16 < H := by omega
          clear b9 S9 B9
          go_wp2
          go_ret
          exact ⟨rfl, HB.out⟩
      · have hbW : W ≤ 16 := by omega
        have hbH : H ≤ 16 := by omega
        obtain ⟨m, rfl⟩ : ∃ m : Nat, W = m := ⟨W.toNat, by omega⟩
        obtain ⟨n, rfl⟩ : ∃ n : Nat, H = n := ⟨H.toNat, by omega⟩
        clear b9 S9 B9 hbig
        go_wp2
        clear y0 y1 y2
        go_loopw [15] (fun i wr => ∃ k : Nat, k ≤ n ∧ i = .int .i64 ((k : Int) - 1) ∧ (∀ x' y' : Int, (k : Int) ≤ y' → y' < n → 0 ≤ x' → x' < m → F x' y' = false) ∧ Blk wr w.heap.size 45 #[.int .i64 m, .int .i64 n, .slice A bl.length c] ∧ Sl rcC 4 wr A c bl ∧ Below w.heap.size w wr) (fun i _ => (nI i + 1).toNat)
        case atStart => exact ⟨n, Nat.le_refl _, by go_num, fun x' y' h1 h2 => by omega, Hb.out, HS.out, HB.out⟩
        case round =>
          obtain ⟨k, hk, rfl, hno, hb, hs, hB⟩ := hrel
          have Hno := hide hno
          have Hbr := hide hb
          have HSr := hide hs
          have HBr := hide hB
          clear hno hs hB Hb HS HB
          rcases Nat.eq_zero_or_pos k with rfl | hkp
          · exfalso
            obtain ⟨h1, h2, h3, h4, h5⟩ := HQ2.out (by first | rfl | trivial)
            have := Hno.out a b (by omega) h5 h2 h3
            rw [h1] at this; cases this
          · obtain ⟨j, rfl⟩ : ∃ j, k = j + 1 := ⟨k - 1, by omega⟩
            have e1 : ((j + 1 : Nat) : Int) - 1 = j := by omega
            rw [e1]
            have g0 : decide (0 ≤ (j : Int)) = true := by simp
            have y0 := hb.cell (v := .int .i64 m) 0 rfl
            have hjn : (j : Int) < n := by omega
            clear hb
            go_wp2
            clear y0
            go_loopw [82] (fun i wz => ∃ q : Nat, q ≤ m ∧ i = .int .i64 q ∧ (∀ x' : Int, 0 ≤ x' → x' < q → F x' j = false) ∧ Blk wz w.heap.size 45 #[.int .i64 m, .int .i64 n, .slice A bl.length c] ∧ Sl rcC 4 wz A c bl ∧ Below w.heap.size w wz) (fun i _ => m - (nI i).toNat)
            case atStart => exact ⟨0, Nat.zero_le _, rfl, fun x' h1 h2 => by omega, Hbr.out, HSr.out, HBr.out⟩
            case round =>
              obtain ⟨q, hq, rfl, hnq, hbz, hsz, hBz⟩ := hrel
              have Hnq := hide hnq
              have Hbz := hide hbz
              have HSz := hide hsz
              have HBz := hide hBz
              clear hnq hsz hBz Hbr HSr HBr
              by_cases hqm : q < m
              · have z0 := hbz.cell (v := .int .i64 m) 0 rfl
                have z1 := hbz.cell (v := .int .i64 n) 1 rfl
                have z2 := hbz.cell (v := .slice A bl.length c) 2 rfl
                have KX := hide (K39.out q j (by unfold i64ok; omega) (by unfold i64ok; omega) wr HSz.out)
                have HX := hide (HQ1.out q j)
                have HN := hide (show F q j = false → ∀ x' : Int, 0 ≤ x' → x' < ((q + 1 : Nat) : Int) → F x' j = false from fun h x' h1 h2 => by
                  by_cases h3 : x' < q
                  · exact Hnq.out x' h1 h3
                  · obtain rfl : x' = q := by omega
                    exact h)
                clear hbz
                generalize F q j = fq at KX HX HN
                go_wp2_with fail
                refine KX.out.mono ?_
                rintro e wn2 ⟨rfl, hbn2⟩
                have Hb3 := hide (Hbz.out.bel hbn2)
                have HS3 := hide (HSz.out.bel hbn2)
                have HB3 := hide (kcall HBz.out hbn2)
                clear hbn2 z0 z1 z2 KX Hbz HSz HBz
                cases fq
                · go_wp2
                  go_roundw
                  case rel => exact ⟨q + 1, by omega, by go_num, HN.out (by first | rfl | trivial), Hb3.out, HS3.out, HB3.out⟩
                  case measure => simp [nI]; omega
                · obtain ⟨-, hor⟩ := HX.out (by first | rfl | trivial)
                  obtain ⟨h1, h2, h3, h4, h5⟩ := HQ2.out (by first | rfl | trivial)
                  have hb' : b = j := by
                    rcases hor with h | ⟨h, _⟩
                    · have := Hno.out a b (by omega) h5 h2 h3
                      rw [h1] at this; cases this
                    · exact h.symm
                  subst hb'
                  have ha' : a = q := by
                    rcases hor with h | ⟨_, h⟩
                    · omega
                    · by_cases h6 : a < q
                      · have := Hnq.out a h2 h6
                        rw [h1] at this; cases this
                      · omega
                  subst ha'
                  clear h1 h2 h3 h4 h5 hor HX HN
                  go_wp2
                  go_ret
                  exact ⟨ret_bool (by simp), HB3.out⟩
              · obtain rfl : q = m := by omega
                clear hbz
                go_wp2
                go_roundw
                case rel =>
                  refine ⟨j, by omega, by go_num, fun x' y' h1 h2 h3 h4 => ?_, Hbz.out, HSz.out, HBz.out⟩
                  by_cases h5 : y' = j
                  · subst h5; exact Hnq.out x' h3 h4
                  · exact Hno.out x' y' (by omega) h2 h3 h4
                case measure => (first | (simp [nI]; done) | (simp [nI]; omega))
theorem regionsLowest_law (W H : Int) (A : Option Addr) (c : Nat) (bl : List Rc) (bw bh x y : Int) (w : World) (hS : Sl rcC 4 w A c bl) (hI : ∀ r ∈ bl, I64R r) (hx : i64ok x) (hy : i64ok y) : Calls Try.prog 10 #[scV W H A bl.length c, .int .i64 bw, .int .i64 bh, .int .i64 x, .int .i64 y] w fun e w' => e = .returned (.bool true) ∧ Below w.heap.size w w' := by
  by_cases hf : few46 bl = true
  · by_cases hz : chkA W H bl bw bh = 0
    · exact lowest_good W H A c bl bw bh x y w hS hI hx hy hf hz
    · exact lowest_bad W H A c bl bw bh x y w hS hI (.inr ⟨hf, hz⟩)
  · exact lowest_bad W H A c bl bw bh x y w hS hI (.inl (by simpa using hf))
end Go.Proofs.Ytchdoamoeccjkaa

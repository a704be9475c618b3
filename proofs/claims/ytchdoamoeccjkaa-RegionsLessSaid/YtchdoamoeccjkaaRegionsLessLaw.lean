/-
  RegionsLess's walk.
-/
import Derived.Test.YtchdoamoeccjkaaRLess
import Derived.Deep.RegionHeld3
namespace Go.Proofs.Ytchdoamoeccjkaa
open Go.RowKit Go.Shelf Go.Mine Go.Mine.R
attribute [local go_sem] Oper.semAt_some
set_option maxRecDepth 100000 in
set_option maxHeartbeats 4000000 in
theorem less_bad (W H : Int) (A : Option Addr) (c : Nat) (bl : List Rc) (bw bh : Int) (at_ tu le fl : Nat) (w : World) (hS : Sl rcC 4 w A c bl) (hI : ∀ r ∈ bl, I64R r) (h : few46 bl = false ∨ (few46 bl = true ∧ chkA W H bl bw bh ≠ 0)) : Calls Try.prog 11 #[scV W H A bl.length c, .int .i64 bw, .int .i64 bh, .int .u8 at_, .int .u8 tu, .int .u8 le, .int .u8 fl] w fun e w' => e = .returned (.bool true) ∧ Below w.heap.size w w' := by
  have hlc := hS.le
  have hc := hS.max
  have KS := hide sane27_any
  have KF := hide (fun w => few28_any W H A c bl w (by omega))
  have KE := hide (fun w (hS : Sl rcC 4 w A c bl) => refError38_any W H A c bl bw bh w hS hI)
  have b9 := Blk.new w #[.int .i64 W, .int .i64 H, .slice A bl.length c] 45
  have B9 : Below w.heap.size w (w.alloc (.cells #[.int .i64 W, .int .i64 H, .slice A bl.length c] 45)) := kalloc (Below.refl _ _) _
  have S9 := hS.alloc (.cells #[.int .i64 W, .int .i64 H, .slice A bl.length c] 45)
  simp only [scV] at KE KF ⊢
  generalize chkA W H bl bw bh = s at *
  generalize few46 bl = fw at *
  clear hS hI
  go_enter Try.func11, Try.ntmps11
  go_wp2_with fail
  generalize w.alloc (.cells #[.int .i64 W, .int .i64 H, .slice A bl.length c] 45) = w0 at *
  refine (KS.out _).mono ?_
  rintro e wn ⟨rfl, hbn⟩
  (replace b9 := b9.bel hbn; replace B9 := kcall B9 hbn; replace S9 := S9.bel hbn; clear hbn)
  (have y0 := b9.cell (v := .int .i64 W) 0 rfl; have y1 := b9.cell (v := .int .i64 H) 1 rfl; have y2 := b9.cell (v := .slice A bl.length c) 2 rfl)
  go_wp2_with fail
  refine (KF.out _).mono ?_
  rintro e wn ⟨rfl, hbn⟩
  (clear y0 y1 y2; (replace b9 := b9.bel hbn; replace B9 := kcall B9 hbn; replace S9 := S9.bel hbn; clear hbn); (have y0 := b9.cell (v := .int .i64 W) 0 rfl; have y1 := b9.cell (v := .int .i64 H) 1 rfl; have y2 := b9.cell (v := .slice A bl.length c) 2 rfl))
  rcases h with rfl | ⟨rfl, hs⟩
  · have HB := hide B9
    clear B9 S9 b9
    go_wp2
    go_ret
    exact ⟨rfl, HB.out⟩
  · have hsn : (s != 0) = true := by simpa using hs
    go_wp2_with fail
    refine (KE.out _ S9).mono ?_
    rintro e wn ⟨rfl, hbn⟩
    have HB := hide (kcall B9 hbn)
    clear B9 S9 b9 hbn y0 y1 y2
    go_wp2
    go_ret
    exact ⟨rfl, HB.out⟩
set_option maxRecDepth 100000 in
set_option maxHeartbeats 8000000 in
theorem less_empty (W H : Int) (A : Option Addr) (c : Nat) (bl : List Rc) (bw bh : Int) (at_ tu le fl : Nat) (w : World) (hS : Sl rcC 4 w A c bl) (hI : ∀ r ∈ bl, I64R r) (ha : at_ < 256) (hu : tu < 256) (hle : le < 256) (hfl : fl < 256) (hf : few46 bl = true) (hz : chkA W H bl bw bh = 0) (hn : bl.length ≤ 0) : Calls Try.prog 11 #[scV W H A bl.length c, .int .i64 bw, .int .i64 bh, .int .u8 at_, .int .u8 tu, .int .u8 le, .int .u8 fl] w fun e w' => e = .returned (.bool true) ∧ Below w.heap.size w w' := by
  have gn : decide (0 < (bl.length : Int)) = false := by rw [decide_eq_false_iff_not]; omega
  have hlc := hS.le
  have hc := hS.max
  have G := chkA_zero hz
  have gfew := G.few
  obtain ⟨gw, gw'⟩ := G.w_
  obtain ⟨gh, gh'⟩ := G.h_
  obtain ⟨i0, hi, hi0, hi1, hi2⟩ := info_parts Try_info86
  have HI := hide hi
  have KS := hide sane27_any
  have KF := hide (fun w => few28_any W H A c bl w (by omega))
  have KE := hide (fun w (hS : Sl rcC 4 w A c bl) => refError38_any W H A c bl bw bh w hS hI)
  have K29 := hide (fun w (hS : Sl rcC 4 w A c bl) => place29_any W H A c bl bw bh w hS hI)
  have KX := hide (fun (X : List Rc) (hX : ∀ r ∈ X, r ∈ bl) A2 c2 w (hS : Sl rcC 4 w A2 c2 X) => (show Calls Try.prog 29 #[.agg #[.int .i64 W, .int .i64 H, .slice A2 X.length c2], .int .i64 bw, .int .i64 bh] w fun e w' => e = .returned (placeV (placeR W H X bw bh)) ∧ Below w.heap.size w w' from place29_any W H A2 c2 X bw bh w hS (fun r hr => hI r (hX r hr))))
  obtain ⟨a, b, ok, hR, hRp⟩ := placeR_ok hz
  have K3 := hide (fun bw' bh' (h1 : 1 ≤ bw') (h2 : bw' ≤ bw) (h3 : 1 ≤ bh') (h4 : bh' ≤ bh) w (hS : Sl rcC 4 w A c bl) => show Calls Try.prog 29 #[scV W H A bl.length c, .int .i64 bw', .int .i64 bh'] w fun e w' => ∃ a3 b3 ok3, e = .returned (placeV (a3, b3, ok3, 0)) ∧ (ok = true → ok3 = true ∧ b ≤ b3) ∧ Below w.heap.size w w' from by
    obtain ⟨a3, b3, ok3, hR3, hRp3⟩ := placeR_ok (chkA_box hz ⟨h1, h2⟩ ⟨h3, h4⟩)
    refine (place29_any W H A c bl bw' bh' w hS hI).mono ?_
    rintro e w' ⟨rfl, hb⟩
    refine ⟨a3, b3, ok3, by rw [hR3], ?_, hb⟩
    rintro rfl
    rcases hRp with ⟨_, hp⟩ | ⟨h, _⟩
    · obtain ⟨q, hq, hle⟩ := less_box h2 h4 hp
      rcases hRp3 with ⟨h, hp3⟩ | ⟨_, hp3⟩
      · rw [hq] at hp3; obtain rfl := Option.some.inj hp3; exact ⟨h, hle⟩
      · rw [hq] at hp3; cases hp3
    · cases h)
  have HM := hide (fun k => show placeR W H (bl.drop k ++ bl.take k) bw bh = (a, b, ok, 0) from (placeR_same hz (fun r => by rw [List.mem_append, or_comm, ← List.mem_append, List.take_append_drop]) (by simp; omega)).trans hR)
  have HFw := hide (fun k => show ∃ a2 b2 ok2, placeR W H (bl.take k ++ bl.drop (k + 1)) bw bh = (a2, b2, ok2, 0) ∧ (ok = true → ok2 = true ∧ b ≤ b2) from by
    have hsub : ∀ r ∈ bl.take k ++ bl.drop (k + 1), r ∈ bl := fun r hr => by
      rcases List.mem_append.1 hr with h | h
      · exact List.mem_of_mem_take h
      · exact List.mem_of_mem_drop h
    obtain ⟨a2, b2, ok2, h2, hp2⟩ := placeR_ok (chkA_sub (bl' := bl.take k ++ bl.drop (k + 1)) hz hsub (by simp; omega))
    refine ⟨a2, b2, ok2, h2, ?_⟩
    rintro rfl
    rcases hRp with ⟨_, hp⟩ | ⟨h, _⟩
    · obtain ⟨q, hq, hle⟩ := less_sub hsub hp
      rcases hp2 with ⟨h, hp2⟩ | ⟨_, hp2⟩
      · rw [hq] at hp2; obtain rfl := Option.some.inj hp2; exact ⟨h, hle⟩
      · rw [hq] at hp2; cases hp2
    · cases h)
  rw [hf] at KF
  rw [hz] at KE
  rw [hR] at K29
  have b9 := Blk.new w #[.int .i64 W, .int .i64 H, .slice A bl.length c] 45
  have B9 : Below w.heap.size w (w.alloc (.cells #[.int .i64 W, .int .i64 H, .slice A bl.length c] 45)) := kalloc (Below.refl _ _) _
  have S9 := hS.alloc (.cells #[.int .i64 W, .int .i64 H, .slice A bl.length c] 45)
  simp only [scV, placeV] at KE KF K29 K3 ⊢
  clear hI hf hz G hR hRp hi
  replace hS := hide hS
  go_enter Try.func11, Try.ntmps11
  go_wp2_with fail
  generalize w.alloc (.cells #[.int .i64 W, .int .i64 H, .slice A bl.length c] 45) = w0 at *
  refine (KS.out _).mono ?_
  rintro e wn ⟨rfl, hbn⟩
  (replace b9 := b9.bel hbn; replace B9 := kcall B9 hbn; replace S9 := S9.bel hbn; clear hbn)
  (have y0 := b9.cell (v := .int .i64 W) 0 rfl; have y1 := b9.cell (v := .int .i64 H) 1 rfl; have y2 := b9.cell (v := .slice A bl.length c) 2 rfl)
  go_wp2_with fail
  refine (KF.out _).mono ?_
  rintro e wn ⟨rfl, hbn⟩
  (clear y0 y1 y2; (replace b9 := b9.bel hbn; replace B9 := kcall B9 hbn; replace S9 := S9.bel hbn; clear hbn); (have y0 := b9.cell (v := .int .i64 W) 0 rfl; have y1 := b9.cell (v := .int .i64 H) 1 rfl; have y2 := b9.cell (v := .slice A bl.length c) 2 rfl))
  go_wp2_with fail
  refine (KE.out _ S9).mono ?_
  rintro e wn ⟨rfl, hbn⟩
  (clear y0 y1 y2; (replace b9 := b9.bel hbn; replace B9 := kcall B9 hbn; replace S9 := S9.bel hbn; clear hbn); (have y0 := b9.cell (v := .int .i64 W) 0 rfl; have y1 := b9.cell (v := .int .i64 H) 1 rfl; have y2 := b9.cell (v := .slice A bl.length c) 2 rfl))
  go_wp2_with fail
  refine (K29.out _ S9).mono ?_
  rintro e wn ⟨rfl, hbn⟩
  (clear y0 y1 y2; (replace b9 := b9.bel hbn; replace B9 := kcall B9 hbn; replace S9 := S9.bel hbn; clear hbn); (have y0 := b9.cell (v := .int .i64 W) 0 rfl; have y1 := b9.cell (v := .int .i64 H) 1 rfl; have y2 := b9.cell (v := .slice A bl.length c) 2 rfl))
  clear KS KF KE K29
  go_wp2_with fail
  all_goals
    refine (K3.out _ _ (by omega) (by omega) (by omega) (by omega) _ S9).mono ?_
    rintro e wl ⟨a3, b3, ok3, rfl, h3, hbl⟩
    have HBl := hide (kcall B9 hbl)
    clear b9 B9 S9 hbl y0 y1 y2
    cases ok
    · go_wp2
      go_ret
      exact ⟨ret_bool (by simp), HBl.out⟩
    · obtain ⟨rfl, hb3⟩ := h3 rfl
      have gb3 : decide (b ≤ b3) = true := by simpa using hb3
      go_wp2
      go_ret
      exact ⟨ret_bool (by simp [hb3]), HBl.out⟩
set_option maxRecDepth 100000 in
set_option maxHeartbeats 8000000 in
theorem less_more (W H : Int) (A : Option Addr) (c : Nat) (bl : List Rc) (bw bh : Int) (at_ tu le fl : Nat) (w : World) (hS : Sl rcC 4 w A c bl) (hI : ∀ r ∈ bl, I64R r) (ha : at_ < 256) (hu : tu < 256) (hle : le < 256) (hfl : fl < 256) (hf : few46 bl = true) (hz : chkA W H bl bw bh = 0) (hn : 0 < bl.length) : Calls Try.prog 11 #[scV W H A bl.length c, .int .i64 bw, .int .i64 bh, .int .u8 at_, .int .u8 tu, .int .u8 le, .int .u8 fl] w fun e w' => e = .returned (.bool true) ∧ Below w.heap.size w w' := by
  have hne : bl ≠ [] := by rintro rfl; simp at hn
  obtain ⟨ba, oa, hA, _⟩ := hS.cells hne
  subst hA
  clear hne
  have hlc := hS.le
  have hc := hS.max
  have G := chkA_zero hz
  have gfew := G.few
  obtain ⟨gw, gw'⟩ := G.w_
  obtain ⟨gh, gh'⟩ := G.h_
  obtain ⟨i0, hi, hi0, hi1, hi2⟩ := info_parts Try_info86
  have HI := hide hi
  have KS := hide sane27_any
  have KF := hide (fun w => few28_any W H (some ⟨ba, oa, none⟩) c bl w (by omega))
  have KE := hide (fun w (hS : Sl rcC 4 w (some ⟨ba, oa, none⟩) c bl) => refError38_any W H (some ⟨ba, oa, none⟩) c bl bw bh w hS hI)
  have K29 := hide (fun w (hS : Sl rcC 4 w (some ⟨ba, oa, none⟩) c bl) => place29_any W H (some ⟨ba, oa, none⟩) c bl bw bh w hS hI)
  have KX := hide (fun (X : List Rc) (hX : ∀ r ∈ X, r ∈ bl) A2 c2 w (hS : Sl rcC 4 w A2 c2 X) => (show Calls Try.prog 29 #[.agg #[.int .i64 W, .int .i64 H, .slice A2 X.length c2], .int .i64 bw, .int .i64 bh] w fun e w' => e = .returned (placeV (placeR W H X bw bh)) ∧ Below w.heap.size w w' from place29_any W H A2 c2 X bw bh w hS (fun r hr => hI r (hX r hr))))
  obtain ⟨a, b, ok, hR, hRp⟩ := placeR_ok hz
  have K3 := hide (fun bw' bh' (h1 : 1 ≤ bw') (h2 : bw' ≤ bw) (h3 : 1 ≤ bh') (h4 : bh' ≤ bh) w (hS : Sl rcC 4 w (some ⟨ba, oa, none⟩) c bl) => show Calls Try.prog 29 #[scV W H (some ⟨ba, oa, none⟩) bl.length c, .int .i64 bw', .int .i64 bh'] w fun e w' => ∃ a3 b3 ok3, e = .returned (placeV (a3, b3, ok3, 0)) ∧ (ok = true → ok3 = true ∧ b ≤ b3) ∧ Below w.heap.size w w' from by
    obtain ⟨a3, b3, ok3, hR3, hRp3⟩ := placeR_ok (chkA_box hz ⟨h1, h2⟩ ⟨h3, h4⟩)
    refine (place29_any W H (some ⟨ba, oa, none⟩) c bl bw' bh' w hS hI).mono ?_
    rintro e w' ⟨rfl, hb⟩
    refine ⟨a3, b3, ok3, by rw [hR3], ?_, hb⟩
    rintro rfl
    rcases hRp with ⟨_, hp⟩ | ⟨h, _⟩
    · obtain ⟨q, hq, hle⟩ := less_box h2 h4 hp
      rcases hRp3 with ⟨h, hp3⟩ | ⟨_, hp3⟩
      · rw [hq] at hp3; obtain rfl := Option.some.inj hp3; exact ⟨h, hle⟩
      · rw [hq] at hp3; cases hp3
    · cases h)
  have HM := hide (fun k => show placeR W H (bl.drop k ++ bl.take k) bw bh = (a, b, ok, 0) from (placeR_same hz (fun r => by rw [List.mem_append, or_comm, ← List.mem_append, List.take_append_drop]) (by simp; omega)).trans hR)
  have HFw := hide (fun k => show ∃ a2 b2 ok2, placeR W H (bl.take k ++ bl.drop (k + 1)) bw bh = (a2, b2, ok2, 0) ∧ (ok = true → ok2 = true ∧ b ≤ b2) from by
    have hsub : ∀ r ∈ bl.take k ++ bl.drop (k + 1), r ∈ bl := fun r hr => by
      rcases List.mem_append.1 hr with h | h
      · exact List.mem_of_mem_take h
      · exact List.mem_of_mem_drop h
    obtain ⟨a2, b2, ok2, h2, hp2⟩ := placeR_ok (chkA_sub (bl' := bl.take k ++ bl.drop (k + 1)) hz hsub (by simp; omega))
    refine ⟨a2, b2, ok2, h2, ?_⟩
    rintro rfl
    rcases hRp with ⟨_, hp⟩ | ⟨h, _⟩
    · obtain ⟨q, hq, hle⟩ := less_sub hsub hp
      rcases hp2 with ⟨h, hp2⟩ | ⟨_, hp2⟩
      · rw [hq] at hp2; obtain rfl := Option.some.inj hp2; exact ⟨h, hle⟩
      · rw [hq] at hp2; cases hp2
    · cases h)
  rw [hf] at KF
  rw [hz] at KE
  rw [hR] at K29
  have b9 := Blk.new w #[.int .i64 W, .int .i64 H, .slice (some ⟨ba, oa, none⟩) bl.length c] 45
  have B9 : Below w.heap.size w (w.alloc (.cells #[.int .i64 W, .int .i64 H, .slice (some ⟨ba, oa, none⟩) bl.length c] 45)) := kalloc (Below.refl _ _) _
  have S9 := hS.alloc (.cells #[.int .i64 W, .int .i64 H, .slice (some ⟨ba, oa, none⟩) bl.length c] 45)
  simp only [scV, placeV] at KE KF K29 K3 ⊢
  clear hI hf hz G hR hRp hi
  replace hS := hide hS
  go_enter Try.func11, Try.ntmps11
  go_wp2_with fail
  generalize w.alloc (.cells #[.int .i64 W, .int .i64 H, .slice (some ⟨ba, oa, none⟩) bl.length c] 45) = w0 at *
  refine (KS.out _).mono ?_
  rintro e wn ⟨rfl, hbn⟩
  (replace b9 := b9.bel hbn; replace B9 := kcall B9 hbn; replace S9 := S9.bel hbn; clear hbn)
  (have y0 := b9.cell (v := .int .i64 W) 0 rfl; have y1 := b9.cell (v := .int .i64 H) 1 rfl; have y2 := b9.cell (v := .slice (some ⟨ba, oa, none⟩) bl.length c) 2 rfl)
  go_wp2_with fail
  refine (KF.out _).mono ?_
  rintro e wn ⟨rfl, hbn⟩
  (clear y0 y1 y2; (replace b9 := b9.bel hbn; replace B9 := kcall B9 hbn; replace S9 := S9.bel hbn; clear hbn); (have y0 := b9.cell (v := .int .i64 W) 0 rfl; have y1 := b9.cell (v := .int .i64 H) 1 rfl; have y2 := b9.cell (v := .slice (some ⟨ba, oa, none⟩) bl.length c) 2 rfl))
  go_wp2_with fail
  refine (KE.out _ S9).mono ?_
  rintro e wn ⟨rfl, hbn⟩
  (clear y0 y1 y2; (replace b9 := b9.bel hbn; replace B9 := kcall B9 hbn; replace S9 := S9.bel hbn; clear hbn); (have y0 := b9.cell (v := .int .i64 W) 0 rfl; have y1 := b9.cell (v := .int .i64 H) 1 rfl; have y2 := b9.cell (v := .slice (some ⟨ba, oa, none⟩) bl.length c) 2 rfl))
  go_wp2_with fail
  refine (K29.out _ S9).mono ?_
  rintro e wn ⟨rfl, hbn⟩
  (clear y0 y1 y2; (replace b9 := b9.bel hbn; replace B9 := kcall B9 hbn; replace S9 := S9.bel hbn; clear hbn); (have y0 := b9.cell (v := .int .i64 W) 0 rfl; have y1 := b9.cell (v := .int .i64 H) 1 rfl; have y2 := b9.cell (v := .slice (some ⟨ba, oa, none⟩) bl.length c) 2 rfl))
  clear KS KF KE K29
  have hT0 : ((bl.length : Int) = 0) = False := by simp only [eq_iff_iff, iff_false]; omega
  have gn : decide (0 < (bl.length : Int)) = true := by rw [decide_eq_true_eq]; omega
  have hm1 := rem_nat tu bl.length
  have hm2 := rem_nat at_ bl.length
  have hk1 := Nat.mod_lt tu hn
  have hk2 := Nat.mod_lt at_ hn
  generalize tu % bl.length = k at hm1 hk1
  generalize at_ % bl.length = k2 at hm2 hk2
  have j0 : (0 : Int) ≤ k := by omega
  have j1 : (k : Int) ≤ bl.length := by omega
  have j2 : (bl.length : Int) ≤ c := by omega
  have j3 : (k : Int) ≤ c := by omega
  have j4 : (0 : Int) ≤ k2 := by omega
  have j5 : (k2 : Int) ≤ bl.length := by omega
  have j6 : (k2 : Int) ≤ c := by omega
  have j7 : (k2 : Int) + 1 ≤ bl.length := by omega
  have j8 : (k2 : Int) + 1 ≤ c := by omega
  have j9 : (0 : Int) ≤ (k2 : Int) + 1 := by omega
  have j10 : ((k2 : Int) + 1).toNat = k2 + 1 := by omega
  have j11 : IntKind.i64.wrap ((k2 : Int) + 1) = (k2 : Int) + 1 := IntWalk.i64_in _ (by omega)
  obtain ⟨w5, hw5⟩ : ∃ x, x = wn := ⟨_, rfl⟩
  subst hw5
  have HBx := b9.lt
  have e9 := Blk.new w5 #[.int .i64 W, .int .i64 H, .slice (some ⟨ba, oa, none⟩) bl.length c] 45
  replace b9 := b9.alloc (.cells #[.int .i64 W, .int .i64 H, .slice (some ⟨ba, oa, none⟩) bl.length c] 45)
  have hN5 := B9.size
  replace B9 := kalloc B9 (.cells #[.int .i64 W, .int .i64 H, .slice (some ⟨ba, oa, none⟩) bl.length c] 45)
  go_wp2_with fail
  generalize w5.alloc (.cells #[.int .i64 W, .int .i64 H, .slice (some ⟨ba, oa, none⟩) bl.length c] 45) = wm at *
  clear y0 y1 y2
  replace S9 := hS.out.bel B9
  have T1 := hide (show Sl rcC 4 wm (if c = k then some ⟨ba, oa, none⟩ else some ⟨ba, oa + k * 4, none⟩) (c - k) (bl.drop k) from by rw [if_neg (by omega)]; exact rc_part S9 k (by omega) (by omega))
  have T2 := hide (show Sl rcC 4 wm (some ⟨ba, oa, none⟩) c (bl.take k) from rc_take S9 k)
  have hT1 : (bl.drop k).length = (bl.length - k) := by simp <;> omega
  have hT2 : (bl.take k).length = k := by simp <;> omega
  have u2 := b9.cell (v := .slice (some ⟨ba, oa, none⟩) bl.length c) 2 rfl
  have v2' := e9.thaw 2
  have v2 := e9.cell (v := .slice (some ⟨ba, oa, none⟩) bl.length c) 2 rfl
  have Hb9 := hide b9
  have HB9 := hide B9
  have He9 := hide e9
  have hel := e9.lt
  have hbl9 := b9.lt
  have hN9 := B9.size
  clear b9 B9 S9 e9
  have q1 := ((kalloc (Below.refl wm.heap.size wm) (.cells #[] 86)).drew.cell (p := ⟨w.heap.size, 2, none⟩) hbl9).trans u2
  have q2 := ((kalloc (Below.refl wm.heap.size wm) (.cells #[] 86)).drew.cell (p := ⟨w5.heap.size, 2, none⟩) hel).trans v2
  have q3 := ((kalloc (Below.refl wm.heap.size wm) (.cells #[] 86)).drew.frozen (p := ⟨w5.heap.size, 2, none⟩) hel).trans v2'
  go_region_held3 (fun w' => w'.cell? ⟨w.heap.size, 2, none⟩ = some (.slice (some ⟨ba, oa, none⟩) bl.length c)) (first | exact u2 | exact q1 | exact f1 | exact g1 | exact h1 | go_keep)
    (first
      | (refine step_append (v := .slice (some ⟨wm.heap.size, 0, none⟩) 0 0) (u := .slice (if c = k then some ⟨ba, oa, none⟩ else some ⟨ba, oa + k * 4, none⟩) (bl.length - k) (c - k)) rfl (.tmp 69) (.tmp 73) 43 rfl rfl rfl (run_ext_rc (base := wm.heap.size) (l1 := []) (l2 := bl.drop k) Try.underlying43 HI.out hi0 hi1 hi2 rfl (OwnL.fresh' rfl (Nat.le_refl _)).drew hT1 (T1.out.alloc _).drew (by first | omega | (simp; done) | (simp; omega) | (simp [maxLen]; done) | (simp [maxLen]; omega)) (by first | omega | (simp; done) | (simp; omega) | (simp [maxLen]; done) | (simp [maxLen]; omega)) (by first | omega | (simp; done) | (simp; omega) | (simp [maxLen]; done) | (simp [maxLen]; omega))) ?_
         rintro va wa ⟨gO, gG, gB⟩
         have gBel : Below wm.heap.size wm wa := Below.grown (kalloc (Below.refl _ _) _).drew gG (by first | omega | (simp; done) | (simp; omega) | (simp [maxLen]; done) | (simp [maxLen]; omega)) (fun k hk => by simp [Value.ownBlock] at hk; omega)
         have gN : wm.heap.size ≤ wa.heap.size := gBel.size
         have f1 := (gBel.cell (p := ⟨w.heap.size, 2, none⟩) hbl9).trans u2
         have f2 := (gBel.cell (p := ⟨w5.heap.size, 2, none⟩) hel).trans v2
         have f3 := (gBel.frozen (p := ⟨w5.heap.size, 2, none⟩) hel).trans v2'
         rw [List.nil_append] at gO)
      | (refine step_append (v := va) (u := .slice (some ⟨ba, oa, none⟩) k c) rfl (.tmp 74) (.tmp 78) 43 rfl rfl rfl (run_ext_rc (base := wm.heap.size) (l1 := bl.drop k) (l2 := bl.take k) Try.underlying43 HI.out hi0 hi1 hi2 rfl gO hT2 (T2.out.bel gBel) (by first | omega | (simp; done) | (simp; omega) | (simp [maxLen]; done) | (simp [maxLen]; omega)) (by first | omega | (simp; done) | (simp; omega) | (simp [maxLen]; done) | (simp [maxLen]; omega)) gN) ?_
         rintro vb wb ⟨gO2, gG2, gB2⟩
         obtain ⟨X, hXe⟩ : ∃ X, bl.drop k ++ bl.take k = X := ⟨_, rfl⟩
         rw [hXe] at gO2
         have gBel2 : Below wm.heap.size wm wb := Below.grown gBel gG2 gN (fun k hk => (gO.blk hk).1)
         have g1 := (gBel2.cell (p := ⟨w.heap.size, 2, none⟩) hbl9).trans u2
         have g2 := (gBel2.cell (p := ⟨w5.heap.size, 2, none⟩) hel).trans v2
         have g3 := (gBel2.frozen (p := ⟨w5.heap.size, 2, none⟩) hel).trans v2'
         obtain ⟨A8, c8, rfl, hS8⟩ := gO2.sl
         have h1 : (wb.setCell ⟨w5.heap.size, 2, none⟩ (.slice A8 X.length c8)).cell? ⟨w.heap.size, 2, none⟩ = some (.slice (some ⟨ba, oa, none⟩) bl.length c) := (World.cell?_of_block (a := ⟨w.heap.size, 2, none⟩) (Below.heap_setCell _ _ _ _ (by dsimp only; omega))).trans g1))
  have hXs : ∀ r ∈ X, r ∈ bl := fun r hr => by
    rw [← hXe] at hr
    rcases List.mem_append.1 hr with h | h
    · exact List.mem_of_mem_drop h
    · exact List.mem_of_mem_take h
  have hXR := HM.out k
  rw [hXe] at hXR
  have e9' := He9.out.bel gBel2
  have b9' := Hb9.out.bel gBel2
  have B9' := kcall HB9.out gBel2
  obtain ⟨wf, hwf⟩ : ∃ wf, wb.setCell ⟨w5.heap.size, 2, none⟩ (.slice A8 X.length c8) = wf := ⟨_, rfl⟩
  have e8 : Blk wf w5.heap.size 45 #[.int .i64 W, .int .i64 H, .slice A8 X.length c8] := by rw [← hwf]; exact e9'.set 2 _ rfl
  have b9 : Blk wf w.heap.size 45 #[.int .i64 W, .int .i64 H, .slice (some ⟨ba, oa, none⟩) bl.length c] := by rw [← hwf]; exact b9'.far _ _ (by dsimp only; omega)
  have B9 : Below w.heap.size w wf := by rw [← hwf]; exact B9'.setCell (by dsimp only; omega) _
  have gO3 : OwnL rcC 4 86 wf wm.heap.size (.slice A8 X.length c8) X := by rw [← hwf]; exact gO2.keep (fun g hg => Below.heap_setCell _ _ _ _ (by have := (gO2.blk hg).1; dsimp only; omega))
  obtain ⟨A7, c7, e7, S8⟩ := gO3.sl
  simp only [Value.slice.injEq, true_and] at e7
  obtain ⟨rfl, rfl⟩ := e7
  have KM := hide (KX.out X hXs A8 c8 wf S8)
  rw [hXR] at KM
  have x0 := e8.cell (v := .int .i64 W) 0 rfl
  have x1 := e8.cell (v := .int .i64 H) 1 rfl
  have x2 := e8.cell (v := .slice A8 X.length c8) 2 rfl
  unfold placeV at KM
  clear gO gG gB gO2 gG2 gB2 gO3 hS8 S8 f1 f2 f3 g1 g2 g3 h1 u2 v2 v2' q1 q2 q3 e9' b9' B9' Hb9 HB9 He9 T1 T2 hT1 hT2 hXR hXs gBel gBel2 gN
  generalize (if c = k then some (Addr.mk ba oa none) else some (Addr.mk ba (oa + k * 4) none)) = A73 at *
  go_wp2_with fail
  refine KM.out.mono ?_
  rintro e wn ⟨rfl, hbn⟩
  replace b9 := b9.bel hbn
  replace B9 := kcall B9 hbn
  have S9 := hS.out.bel B9
  clear hbn x0 x1 x2 e8 hwf KM
  (have y0 := b9.cell (v := .int .i64 W) 0 rfl; have y1 := b9.cell (v := .int .i64 H) 1 rfl; have y2 := b9.cell (v := .slice (some ⟨ba, oa, none⟩) bl.length c) 2 rfl)
  have qe : (a != a) = false := by simp
  have qe2 : (b != b) = false := by simp
  have qe3 : (ok != ok) = false := by simp
  go_wp2_with fail
  obtain ⟨w5, hw5⟩ : ∃ x, x = wn := ⟨_, rfl⟩
  subst hw5
  have HBx := b9.lt
  have e9 := Blk.new w5 #[.int .i64 W, .int .i64 H, .slice (some ⟨ba, oa, none⟩) bl.length c] 45
  replace b9 := b9.alloc (.cells #[.int .i64 W, .int .i64 H, .slice (some ⟨ba, oa, none⟩) bl.length c] 45)
  have hN5 := B9.size
  replace B9 := kalloc B9 (.cells #[.int .i64 W, .int .i64 H, .slice (some ⟨ba, oa, none⟩) bl.length c] 45)
  go_wp2_with fail
  generalize w5.alloc (.cells #[.int .i64 W, .int .i64 H, .slice (some ⟨ba, oa, none⟩) bl.length c] 45) = wm at *
  clear y0 y1 y2
  replace S9 := hS.out.bel B9
  have T1 := hide (show Sl rcC 4 wm (some ⟨ba, oa, none⟩) c (bl.take k2) from rc_take S9 k2)
  have T2 := hide (show Sl rcC 4 wm (if c = k2 + 1 then some ⟨ba, oa, none⟩ else some ⟨ba, oa + (k2 + 1) * 4, none⟩) (c - (k2 + 1)) (bl.drop (k2 + 1)) from by
    split
    · rw [List.drop_of_length_le (by omega)]; exact Sl.nil (by omega)
    · exact rc_part S9 (k2 + 1) (by omega) (by omega))
  have hT1 : (bl.take k2).length = k2 := by simp <;> omega
  have hT2 : (bl.drop (k2 + 1)).length = (bl.length - (k2 + 1)) := by simp <;> omega
  have u2 := b9.cell (v := .slice (some ⟨ba, oa, none⟩) bl.length c) 2 rfl
  have v2' := e9.thaw 2
  have v2 := e9.cell (v := .slice (some ⟨ba, oa, none⟩) bl.length c) 2 rfl
  have Hb9 := hide b9
  have HB9 := hide B9
  have He9 := hide e9
  have hel := e9.lt
  have hbl9 := b9.lt
  have hN9 := B9.size
  clear b9 B9 S9 e9
  have q1 := ((kalloc (Below.refl wm.heap.size wm) (.cells #[] 86)).drew.cell (p := ⟨w.heap.size, 2, none⟩) hbl9).trans u2
  have q2 := ((kalloc (Below.refl wm.heap.size wm) (.cells #[] 86)).drew.cell (p := ⟨w5.heap.size, 2, none⟩) hel).trans v2
  have q3 := ((kalloc (Below.refl wm.heap.size wm) (.cells #[] 86)).drew.frozen (p := ⟨w5.heap.size, 2, none⟩) hel).trans v2'
  go_region_held3 (fun w' => w'.cell? ⟨w.heap.size, 2, none⟩ = some (.slice (some ⟨ba, oa, none⟩) bl.length c)) (first | exact u2 | exact q1 | exact f1 | exact g1 | exact h1 | go_keep)
    (first
      | (refine step_append (v := .slice (some ⟨wm.heap.size, 0, none⟩) 0 0) (u := .slice (some ⟨ba, oa, none⟩) k2 c) rfl (.tmp 112) (.tmp 116) 43 rfl rfl rfl (run_ext_rc (base := wm.heap.size) (l1 := []) (l2 := bl.take k2) Try.underlying43 HI.out hi0 hi1 hi2 rfl (OwnL.fresh' rfl (Nat.le_refl _)).drew hT1 (T1.out.alloc _).drew (by first | omega | (simp; done) | (simp; omega) | (simp [maxLen]; done) | (simp [maxLen]; omega)) (by first | omega | (simp; done) | (simp; omega) | (simp [maxLen]; done) | (simp [maxLen]; omega)) (by first | omega | (simp; done) | (simp; omega) | (simp [maxLen]; done) | (simp [maxLen]; omega))) ?_
         rintro va wa ⟨gO, gG, gB⟩
         have gBel : Below wm.heap.size wm wa := Below.grown (kalloc (Below.refl _ _) _).drew gG (by first | omega | (simp; done) | (simp; omega) | (simp [maxLen]; done) | (simp [maxLen]; omega)) (fun k hk => by simp [Value.ownBlock] at hk; omega)
         have gN : wm.heap.size ≤ wa.heap.size := gBel.size
         have f1 := (gBel.cell (p := ⟨w.heap.size, 2, none⟩) hbl9).trans u2
         have f2 := (gBel.cell (p := ⟨w5.heap.size, 2, none⟩) hel).trans v2
         have f3 := (gBel.frozen (p := ⟨w5.heap.size, 2, none⟩) hel).trans v2'
         rw [List.nil_append] at gO)
      | (refine step_append (v := va) (u := .slice (if c = k2 + 1 then some ⟨ba, oa, none⟩ else some ⟨ba, oa + (k2 + 1) * 4, none⟩) (bl.length - (k2 + 1)) (c - (k2 + 1))) rfl (.tmp 117) (.tmp 122) 43 rfl rfl rfl (run_ext_rc (base := wm.heap.size) (l1 := bl.take k2) (l2 := bl.drop (k2 + 1)) Try.underlying43 HI.out hi0 hi1 hi2 rfl gO hT2 (T2.out.bel gBel) (by first | omega | (simp; done) | (simp; omega) | (simp [maxLen]; done) | (simp [maxLen]; omega)) (by first | omega | (simp; done) | (simp; omega) | (simp [maxLen]; done) | (simp [maxLen]; omega)) gN) ?_
         rintro vb wb ⟨gO2, gG2, gB2⟩
         obtain ⟨X, hXe⟩ : ∃ X, bl.take k2 ++ bl.drop (k2 + 1) = X := ⟨_, rfl⟩
         rw [hXe] at gO2
         have gBel2 : Below wm.heap.size wm wb := Below.grown gBel gG2 gN (fun k hk => (gO.blk hk).1)
         have g1 := (gBel2.cell (p := ⟨w.heap.size, 2, none⟩) hbl9).trans u2
         have g2 := (gBel2.cell (p := ⟨w5.heap.size, 2, none⟩) hel).trans v2
         have g3 := (gBel2.frozen (p := ⟨w5.heap.size, 2, none⟩) hel).trans v2'
         obtain ⟨A8, c8, rfl, hS8⟩ := gO2.sl
         have h1 : (wb.setCell ⟨w5.heap.size, 2, none⟩ (.slice A8 X.length c8)).cell? ⟨w.heap.size, 2, none⟩ = some (.slice (some ⟨ba, oa, none⟩) bl.length c) := (World.cell?_of_block (a := ⟨w.heap.size, 2, none⟩) (Below.heap_setCell _ _ _ _ (by dsimp only; omega))).trans g1))
  have hXs : ∀ r ∈ X, r ∈ bl := fun r hr => by
    rw [← hXe] at hr
    rcases List.mem_append.1 hr with h | h
    · exact List.mem_of_mem_take h
    · exact List.mem_of_mem_drop h
  obtain ⟨a2, b2, ok2, hXR, hok2⟩ := HFw.out k2
  rw [hXe] at hXR
  have e9' := He9.out.bel gBel2
  have b9' := Hb9.out.bel gBel2
  have B9' := kcall HB9.out gBel2
  obtain ⟨wf, hwf⟩ : ∃ wf, wb.setCell ⟨w5.heap.size, 2, none⟩ (.slice A8 X.length c8) = wf := ⟨_, rfl⟩
  have e8 : Blk wf w5.heap.size 45 #[.int .i64 W, .int .i64 H, .slice A8 X.length c8] := by rw [← hwf]; exact e9'.set 2 _ rfl
  have b9 : Blk wf w.heap.size 45 #[.int .i64 W, .int .i64 H, .slice (some ⟨ba, oa, none⟩) bl.length c] := by rw [← hwf]; exact b9'.far _ _ (by dsimp only; omega)
  have B9 : Below w.heap.size w wf := by rw [← hwf]; exact B9'.setCell (by dsimp only; omega) _
  have gO3 : OwnL rcC 4 86 wf wm.heap.size (.slice A8 X.length c8) X := by rw [← hwf]; exact gO2.keep (fun g hg => Below.heap_setCell _ _ _ _ (by have := (gO2.blk hg).1; dsimp only; omega))
  obtain ⟨A7, c7, e7, S8⟩ := gO3.sl
  simp only [Value.slice.injEq, true_and] at e7
  obtain ⟨rfl, rfl⟩ := e7
  have KM := hide (KX.out X hXs A8 c8 wf S8)
  rw [hXR] at KM
  have x0 := e8.cell (v := .int .i64 W) 0 rfl
  have x1 := e8.cell (v := .int .i64 H) 1 rfl
  have x2 := e8.cell (v := .slice A8 X.length c8) 2 rfl
  unfold placeV at KM
  clear gO gG gB gO2 gG2 gB2 gO3 hS8 S8 f1 f2 f3 g1 g2 g3 h1 u2 v2 v2' q1 q2 q3 e9' b9' B9' Hb9 HB9 He9 T1 T2 hT1 hT2 hXR hXs gBel gBel2 gN
  generalize (if c = k2 + 1 then some (Addr.mk ba oa none) else some (Addr.mk ba (oa + (k2 + 1) * 4) none)) = A74 at *
  go_wp2_with fail
  refine KM.out.mono ?_
  rintro e wn ⟨rfl, hbn⟩
  replace b9 := b9.bel hbn
  replace B9 := kcall B9 hbn
  have S9 := hS.out.bel B9
  clear hbn x0 x1 x2 e8 hwf KM
  (have y0 := b9.cell (v := .int .i64 W) 0 rfl; have y1 := b9.cell (v := .int .i64 H) 1 rfl; have y2 := b9.cell (v := .slice (some ⟨ba, oa, none⟩) bl.length c) 2 rfl)
  cases ok
  · go_wp2_with fail
    all_goals
      refine (K3.out _ _ (by omega) (by omega) (by omega) (by omega) _ S9).mono ?_
      rintro e wl ⟨a3, b3, ok3, rfl, h3, hbl⟩
      have HBl := hide (kcall B9 hbl)
      clear b9 B9 S9 hbl y0 y1 y2
      go_wp2
      go_ret
      exact ⟨ret_bool (by simp), HBl.out⟩
  · obtain ⟨rfl, hb2⟩ := hok2 rfl
    have gb2 : decide (b2 < b) = false := by rw [decide_eq_false_iff_not]; omega
    go_wp2_with fail
    all_goals
      refine (K3.out _ _ (by omega) (by omega) (by omega) (by omega) _ S9).mono ?_
      rintro e wl ⟨a3, b3, ok3, rfl, h3, hbl⟩
      have HBl := hide (kcall B9 hbl)
      clear b9 B9 S9 hbl y0 y1 y2
      obtain ⟨rfl, hb3⟩ := h3 (by first | rfl | trivial)
      have gb3 : decide (b ≤ b3) = true := by simpa using hb3
      go_wp2
      go_ret
      exact ⟨ret_bool (by simp [hb3]), HBl.out⟩
theorem regionsLess_law (W H : Int) (A : Option Addr) (c : Nat) (bl : List Rc) (bw bh : Int) (at_ tu le fl : Nat) (w : World) (hS : Sl rcC 4 w A c bl) (hI : ∀ r ∈ bl, I64R r) (ha : at_ < 256) (hu : tu < 256) (hle : le < 256) (hfl : fl < 256) : Calls Try.prog 11 #[scV W H A bl.length c, .int .i64 bw, .int .i64 bh, .int .u8 at_, .int .u8 tu, .int .u8 le, .int .u8 fl] w fun e w' => e = .returned (.bool true) ∧ Below w.heap.size w w' := by
  by_cases hf : few46 bl = true
  · by_cases hz : chkA W H bl bw bh = 0
    · by_cases hn : 0 < bl.length
      · exact less_more W H A c bl bw bh at_ tu le fl w hS hI ha hu hle hfl hf hz hn
      · exact less_empty W H A c bl bw bh at_ tu le fl w hS hI ha hu hle hfl hf hz (by omega)
    · exact less_bad W H A c bl bw bh at_ tu le fl w hS hI (.inr ⟨hf, hz⟩)
  · exact less_bad W H A c bl bw bh at_ tu le fl w hS hI (.inl (by simpa using hf))
end Go.Proofs.Ytchdoamoeccjkaa

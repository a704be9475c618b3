/-
  The calls for all arguments; hansardlaw46.sane answers true.
-/
import Derived.Test.YtchdoamoeccjkaaRRef4
namespace Go.Proofs.Ytchdoamoeccjkaa
open Go.RowKit Go.Shelf Go.Mine Go.Mine.R
attribute [local go_sem] Oper.semAt_some

section
variable (W H : Int) (A B : Option Addr) (c d : Nat) (bl : List Rc) (bw bh : Int) (l : List Int) (w : World) (hS : Sl rcC 4 w A c bl) (hI : ∀ r ∈ bl, I64R r) (hL : Sl ic 1 w B d l)
include hS hI
theorem place29_any : Calls Try.prog 29 #[scV W H A bl.length c, .int .i64 bw, .int .i64 bh] w fun e w' => e = .returned (placeV (placeR W H bl bw bh)) ∧ Below w.heap.size w w' := by
  by_cases h : chkA W H bl bw bh = 0
  · exact place29_good W H A c bl bw bh w hS hI h
  · exact place29_bad W H A c bl bw bh w hS hI h
theorem refPlace30_any : Calls Try.prog 30 #[scV W H A bl.length c, .int .i64 bw, .int .i64 bh] w fun e w' => e = .returned (placeV (placeR W H bl bw bh)) ∧ Below w.heap.size w w' := by
  by_cases h : chkA W H bl bw bh = 0
  · exact refPlace30_good W H A c bl bw bh w hS hI h
  · exact refPlace30_bad W H A c bl bw bh w hS hI h
theorem deny33_any : Calls Try.prog 33 #[scV W H A bl.length c, .int .i64 bw, .int .i64 bh] w fun e w' => ∃ A2 c2, e = .returned (.tuple #[.slice A2 (denyL W H bl bw bh).length c2, .bool (denyB W H bl bw bh), .int .i64 (chkA W H bl bw bh)]) ∧ Sl ic 1 w' A2 c2 (denyL W H bl bw bh) ∧ Below w.heap.size w w' := by
  by_cases h : chkA W H bl bw bh = 0
  · refine (deny33_good W H A c bl bw bh w hS hI h).mono ?_
    rintro e w' ⟨v, rfl, hO, hb⟩
    obtain ⟨A2, c2, rfl, hSl⟩ := hO.sl
    exact ⟨A2, c2, by rw [h], hSl, hb⟩
  · refine (deny33_bad W H A c bl bw bh w hS hI h).mono ?_
    rintro e w' ⟨rfl, hb⟩
    have h1 : denyL W H bl bw bh = [] := by unfold denyL; rw [if_neg (fun e => h e.1)]
    have h2 : denyB W H bl bw bh = false := by unfold denyB; simp [h]
    rw [h1, h2]
    exact ⟨none, 0, rfl, Sl.nil (by omega), hb⟩
theorem refDeny34_any : Calls Try.prog 34 #[scV W H A bl.length c, .int .i64 bw, .int .i64 bh] w fun e w' => ∃ A2 c2, e = .returned (.tuple #[.slice A2 (denyL W H bl bw bh).length c2, .bool (denyB W H bl bw bh), .int .i64 (chkA W H bl bw bh)]) ∧ Sl ic 1 w' A2 c2 (denyL W H bl bw bh) ∧ Below w.heap.size w w' := by
  by_cases h : chkA W H bl bw bh = 0
  · refine (refDeny34_good W H A c bl bw bh w hS hI h).mono ?_
    rintro e w' ⟨v, rfl, hO, hb⟩
    obtain ⟨A2, c2, rfl, hSl⟩ := hO.sl
    exact ⟨A2, c2, by rw [h], hSl, hb⟩
  · refine (refDeny34_bad W H A c bl bw bh w hS hI h).mono ?_
    rintro e w' ⟨rfl, hb⟩
    have h1 : denyL W H bl bw bh = [] := by unfold denyL; rw [if_neg (fun e => h e.1)]
    have h2 : denyB W H bl bw bh = false := by unfold denyB; simp [h]
    rw [h1, h2]
    exact ⟨none, 0, rfl, Sl.nil (by omega), hb⟩
include hL
theorem refutes35_any : Calls Try.prog 35 #[scV W H A bl.length c, .int .i64 bw, .int .i64 bh, .slice B l.length d] w fun e w' => e = .returned (.tuple #[.bool (refB W H bl bw bh l), .int .i64 (chkA W H bl bw bh)]) ∧ Below w.heap.size w w' := by
  by_cases h : chkA W H bl bw bh = 0
  · rw [h]; exact refutes35_good W H A B c d bl bw bh l w hS hI hL h
  · exact refutes35_bad W H A B c d bl bw bh l w hS hI h
theorem refRefutes36_any : Calls Try.prog 36 #[scV W H A bl.length c, .int .i64 bw, .int .i64 bh, .slice B l.length d] w fun e w' => e = .returned (.tuple #[.bool (refB W H bl bw bh l), .int .i64 (chkA W H bl bw bh)]) ∧ Below w.heap.size w w' := by
  by_cases h : chkA W H bl bw bh = 0
  · rw [h]; exact refRefutes36_good W H A B c d bl bw bh l w hS hI hL h
  · exact refRefutes36_bad W H A B c d bl bw bh l w hS hI h
end
theorem screen57_any (A : Option Addr) (n c : Nat) (w : World) : Calls Try.prog 57 #[.slice A n c] w fun e w' => e = .returned (.agg #[.int .i64 10, .int .i64 10, .slice A n c]) ∧ Below w.heap.size w w' := by
  go_enter Try.func57, Try.ntmps57
  go_wp2
  refine bodyPost_ret (v := .agg #[.int .i64 10, .int .i64 10, .slice A n c]) (by simp [results, Try.results57, go_sem]) rfl ⟨rfl, kalloc (Below.refl _ _) _⟩
section
variable {W H : Int} {A B : Option Addr} {c d : Nat} {bl : List Rc} {bw bh : Int} {w : World}
def okI (bl : List Rc) : Bool := bl.all fun r => decide (-1000 ≤ r.x ∧ r.x ≤ 1000 ∧ -1000 ≤ r.y ∧ r.y ≤ 1000 ∧ -1000 ≤ r.w ∧ r.w ≤ 1000 ∧ -1000 ≤ r.h ∧ r.h ≤ 1000)
theorem okI_ok (h : okI bl = true) : ∀ r ∈ bl, I64R r := fun r hr => by
  have := List.all_eq_true.1 h r hr
  simp only [decide_eq_true_eq] at this
  unfold I64R i64ok
  omega
theorem place_lit (hS : Sl rcC 4 w A c bl) (n : Nat) (R : Int × Int × Bool × Int) (hn : bl.length = n) (hI : okI bl = true) (hR : placeR W H bl bw bh = R) :
    Calls Try.prog 29 #[.agg #[.int .i64 W, .int .i64 H, .slice A n c], .int .i64 bw, .int .i64 bh] w fun e w' => e = .returned (placeV R) ∧ Below w.heap.size w w' := by
  subst hn hR; exact place29_any W H A c bl bw bh w hS (okI_ok hI)
theorem check_lit (hS : Sl rcC 4 w A c bl) (n : Nat) (R : Int) (hn : bl.length = n) (hI : okI bl = true) (hR : chkS W H bl = R) :
    Calls Try.prog 31 #[.agg #[.int .i64 W, .int .i64 H, .slice A n c]] w fun e w' => e = .returned (.int .i64 R) ∧ Below w.heap.size w w' := by
  subst hn hR; exact check31_any W H A c bl w hS (okI_ok hI)
theorem deny_lit (hS : Sl rcC 4 w A c bl) (n : Nat) (x : List Int) (k : Nat) (b : Bool) (er : Int) (hn : bl.length = n) (hI : okI bl = true) (hx : denyL W H bl bw bh = x) (hk : x.length = k) (hb : denyB W H bl bw bh = b) (he : chkA W H bl bw bh = er) :
    Calls Try.prog 33 #[.agg #[.int .i64 W, .int .i64 H, .slice A n c], .int .i64 bw, .int .i64 bh] w fun e w' => ∃ A2 c2, e = .returned (.tuple #[.slice A2 k c2, .bool b, .int .i64 er]) ∧ Sl ic 1 w' A2 c2 x ∧ Below w.heap.size w w' := by
  subst hn hk hx hb he; exact deny33_any W H A c bl bw bh w hS (okI_ok hI)
theorem refutes_lit (hS : Sl rcC 4 w A c bl) (n : Nat) (l : List Int) (hL : Sl ic 1 w B d l) (k : Nat) (b : Bool) (er : Int) (hn : bl.length = n) (hI : okI bl = true) (hk : l.length = k) (hb : refB W H bl bw bh l = b) (he : chkA W H bl bw bh = er) :
    Calls Try.prog 35 #[.agg #[.int .i64 W, .int .i64 H, .slice A n c], .int .i64 bw, .int .i64 bh, .slice B k d] w fun e w' => e = .returned (.tuple #[.bool b, .int .i64 er]) ∧ Below w.heap.size w w' := by
  subst hn hk hb he; exact refutes35_any W H A B c d bl bw bh l w hS (okI_ok hI) hL
set_option maxHeartbeats 1000000 in
theorem placed_lit (hS : Sl rcC 4 w A c bl) (n : Nat) (x y : Int) (hn : bl.length = n) (hI : okI bl = true) (hR : placeR W H bl bw bh = (x, y, true, 0)) :
    Calls Try.prog 58 #[.agg #[.int .i64 W, .int .i64 H, .slice A n c], .int .i64 bw, .int .i64 bh, .int .i64 x, .int .i64 y] w fun e w' => e = .returned (.bool true) ∧ Below w.heap.size w w' := by
  have K := hide (place_lit (W := W) (H := H) (bw := bw) (bh := bh) (hS.alloc (.cells #[.int .i64 W, .int .i64 H, .slice A n c] 45)) n _ hn hI hR)
  clear hS hn hI hR
  unfold placeV at K
  go_enter Try.func58, Try.ntmps58
  go_wp2_with fail
  refine K.out.mono ?_
  rintro e w1 ⟨rfl, hb1⟩
  have hB := hide (kcall (kalloc (Below.refl _ w) _) hb1)
  clear hb1 K
  go_wp2
  go_ret
  exact ⟨ret_bool (by simp), hB.out⟩
end
def full1 : List Rc := [⟨0, 0, 10, 10⟩]
def low1 : List Rc := [⟨0, 5, 10, 5⟩]
def odd1 : List Rc := [⟨10, 0, 1, 1⟩]
set_option maxRecDepth 100000 in
set_option maxHeartbeats 4000000 in
theorem sane27_any (w : World) : Calls Try.prog 27 #[] w fun e w' => e = .returned (.bool true) ∧ Below w.heap.size w w' := by
  have S0 : Sl rcC 4 (w.alloc (.cells #[.int .i64 0, .int .i64 0, .int .i64 10, .int .i64 10] 86)) (some ⟨w.heap.size, 0, none⟩) 1 full1 := Sl.one (Blk.new w _ _) rfl rfl (by decide) (by decide)
  have B0 : Below w.heap.size w (w.alloc (.cells #[.int .i64 0, .int .i64 0, .int .i64 10, .int .i64 10] 86)) := kalloc (Below.refl _ _) _
  go_enter Try.func27, Try.ntmps27
  go_wp2_with fail
  generalize w.alloc (.cells #[.int .i64 0, .int .i64 0, .int .i64 10, .int .i64 10] 86) = w0 at *
  refine (screen57_any _ _ _ _).mono ?_
  rintro e w1 ⟨rfl, hb1⟩
  have B1 := kcall B0 hb1
  have S1 := S0.bel hb1
  clear B0 S0 hb1
  go_wp2_with fail
  refine (place_lit (S1.alloc _) 1 (0, 0, false, 0) rfl rfl (by decide +kernel)).mono ?_
  rintro e w2 ⟨rfl, hb2⟩
  have b2 := (Blk.new w1 #[.int .i64 10, .int .i64 10, .slice (some ⟨w.heap.size, 0, none⟩) 1 1] 45).bel hb2
  have B2 := kcall (kalloc B1 _) hb2
  have S2 := (S1.alloc (.cells #[.int .i64 10, .int .i64 10, .slice (some ⟨w.heap.size, 0, none⟩) 1 1] 45)).bel hb2
  have y0 := b2.cell (v := .int .i64 10) 0 rfl
  have y1 := b2.cell (v := .int .i64 10) 1 rfl
  have y2 := b2.cell (v := .slice (some ⟨w.heap.size, 0, none⟩) 1 1) 2 rfl
  generalize w1.heap.size = pb at *
  unfold placeV
  clear B1 S1 hb2
  go_wp2_with fail
  refine (deny_lit S2 1 [0] 1 true 0 rfl rfl (by decide +kernel) rfl (by decide +kernel) (by decide +kernel)).mono ?_
  rintro e w3 ⟨A3, c3, rfl, L3, hb3⟩
  have b3 := b2.bel hb3
  have B3 := kcall B2 hb3
  have S3 := S2.bel hb3
  clear y0 y1 y2 b2 B2 S2 hb3
  go_wp2_with fail
  refine (screen57_any _ _ _ _).mono ?_
  rintro e w4 ⟨rfl, hb4⟩
  have b4 := b3.bel hb4
  have B4 := kcall B3 hb4
  have S4 := S3.bel hb4
  have L4 := L3.bel hb4
  clear b3 B3 S3 L3 hb4
  go_wp2_with fail
  refine (deny_lit (bl := []) (Sl.nil (by omega)) 0 [] 0 true 0 rfl rfl (by decide +kernel) rfl (by decide +kernel) (by decide +kernel)).mono ?_
  rintro e w5 ⟨A5, c5, rfl, _, hb5⟩
  have b5 := b4.bel hb5
  have B5 := kcall B4 hb5
  have S5 := S4.bel hb5
  have L5 := L4.bel hb5
  clear b4 B4 S4 L4 hb5
  go_wp2_with fail
  refine (screen57_any _ _ _ _).mono ?_
  rintro e w6 ⟨rfl, hb6⟩
  have b6 := b5.bel hb6
  have B6 := kcall B5 hb6
  have S6 := S5.bel hb6
  have L6 := L5.bel hb6
  clear b5 B5 S5 L5 hb6
  go_wp2_with fail
  refine (place_lit (bl := []) (Sl.nil (by omega)) 0 (0, 0, false, 1) rfl rfl (by decide +kernel)).mono ?_
  rintro e w7 ⟨rfl, hb7⟩
  have b7 := b6.bel hb7
  have B7 := kcall B6 hb7
  have S7 := S6.bel hb7
  have L7 := L6.bel hb7
  have y0 := b7.cell (v := .int .i64 10) 0 rfl
  have y1 := b7.cell (v := .int .i64 10) 1 rfl
  have y2 := b7.cell (v := .slice (some ⟨w.heap.size, 0, none⟩) 1 1) 2 rfl
  unfold placeV
  clear b6 B6 S6 L6 hb7
  go_wp2_with fail
  refine (refutes_lit (S7.alloc _) 1 [0] (Sl.one (Blk.new' rfl) rfl rfl (by decide) (by decide)) 1 true 0 rfl rfl rfl (by decide +kernel) (by decide +kernel)).mono ?_
  rintro e w8 ⟨rfl, hb8⟩
  have B8 := kcall (kalloc B7 _) hb8
  have L8 := (L7.alloc _).bel hb8
  clear y0 y1 y2 b7 B7 S7 L7 hb8
  go_wp2_with fail
  refine (screen57_any _ _ _ _).mono ?_
  rintro e w9 ⟨rfl, hb9⟩
  have B9 := kcall B8 hb9
  have L9 := L8.bel hb9
  clear B8 L8 hb9
  go_wp2_with fail
  refine (deny_lit (bl := []) (Sl.nil (by omega)) 0 [] 0 false 0 rfl rfl (by decide +kernel) rfl (by decide +kernel) (by decide +kernel)).mono ?_
  rintro e w10 ⟨A10, c10, rfl, _, hb10⟩
  have B10 := kcall B9 hb10
  have L10 := L9.bel hb10
  clear B9 L9 hb10
  go_wp2_with fail
  refine (sameInts37_any _ _ _ _ [0] [0] _ (L10.alloc _) (Sl.one (Blk.new' rfl) rfl rfl (by decide) (by decide))).mono ?_
  rintro e w11 ⟨rfl, hb11⟩
  have B11 := kcall (kalloc B10 _) hb11
  clear B10 L10 hb11
  go_wp2_with fail
  refine (placed_lit (bl := []) (Sl.nil (by omega)) 0 0 40 rfl rfl (by decide +kernel)).mono ?_
  rintro e w12 ⟨rfl, hb12⟩
  have B12 := kcall B11 hb12
  clear B11 hb12
  go_wp2_with fail
  have S12 : Sl rcC 4 (w12.alloc (.cells #[.int .i64 0, .int .i64 5, .int .i64 10, .int .i64 5] 86)) (some ⟨w12.heap.size, 0, none⟩) 1 low1 := Sl.one (Blk.new w12 _ _) rfl rfl (by decide) (by decide)
  refine (screen57_any _ _ _ _).mono ?_
  rintro e w13 ⟨rfl, hb13⟩
  have S13 := S12.bel hb13
  have B13 := kcall (kalloc B12 _) hb13
  clear B12 S12 hb13
  go_wp2_with fail
  refine (placed_lit S13 1 0 0 rfl rfl (by decide +kernel)).mono ?_
  rintro e w14 ⟨rfl, hb14⟩
  have B14 := kcall B13 hb14
  clear B13 S13 hb14
  go_wp2_with fail
  have S14 : Sl rcC 4 (w14.alloc (.cells #[.int .i64 10, .int .i64 0, .int .i64 1, .int .i64 1] 86)) (some ⟨w14.heap.size, 0, none⟩) 1 odd1 := Sl.one (Blk.new w14 _ _) rfl rfl (by decide) (by decide)
  refine (screen57_any _ _ _ _).mono ?_
  rintro e w15 ⟨rfl, hb15⟩
  have S15 := S14.bel hb15
  have B15 := kcall (kalloc B14 _) hb15
  clear B14 S14 hb15
  go_wp2_with fail
  refine (check_lit S15 1 460 rfl rfl (by decide +kernel)).mono ?_
  rintro e w16 ⟨rfl, hb16⟩
  have B16 := kcall B15 hb16
  clear B15 S15 hb16
  go_wp2_with fail
  refine (screen57_any _ _ _ _).mono ?_
  rintro e w17 ⟨rfl, hb17⟩
  have B17 := kcall B16 hb17
  clear B16 hb17
  go_wp2_with fail
  refine (check_lit (bl := []) (Sl.nil (by omega)) 0 0 rfl rfl (by decide +kernel)).mono ?_
  rintro e w18 ⟨rfl, hb18⟩
  have B18 := hide (kcall B17 hb18)
  clear B17 hb18
  go_wp2
  go_ret
  exact ⟨by first | rfl | exact ret_bool (by simp), B18.out⟩
end Go.Proofs.Ytchdoamoeccjkaa

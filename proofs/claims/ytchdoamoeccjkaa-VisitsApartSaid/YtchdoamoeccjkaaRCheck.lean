/-
  regions.Check and check; the reference's Check and Error: one plain answer.
-/
import Derived.Test.YtchdoamoeccjkaaRHit
namespace Go.Proofs.Ytchdoamoeccjkaa
open Go.RowKit Go.Mine Go.Mine.R
attribute [local go_sem] Oper.semAt_some

def chkS (W H : Int) (bl : List Rc) : Int := if 32 < bl.length then 2 else if pix W && pix H && bl.all (fun r => lies W H r) then 0 else 460
def chkA (W H : Int) (bl : List Rc) (w h : Int) : Int := if chkS W H bl = 0 then (if pix w && pix h then 0 else 1) else chkS W H bl
theorem lies_iff {W H : Int} {r : Rc} : lies W H r = true ↔ 0 ≤ r.x ∧ 0 ≤ r.y ∧ pix r.w = true ∧ pix r.h = true ∧ r.x ≤ W - r.w ∧ r.y ≤ H - r.h := by
  simp only [lies, Bool.and_eq_true, decide_eq_true_eq, and_assoc]
/-- the screen as a value and as cells -/
def scV (W H : Int) (A : Option Addr) (n c : Nat) : Value := .agg #[.int .i64 W, .int .i64 H, .slice A n c]
def scC (W H : Int) (A : Option Addr) (n c : Nat) : Array Value := #[.int .i64 W, .int .i64 H, .slice A n c]
def I64R (r : Rc) : Prop := i64ok r.x ∧ i64ok r.y ∧ i64ok r.w ∧ i64ok r.h
set_option maxRecDepth 100000 in
set_option maxHeartbeats 1000000 in
theorem odd65_any (r : Rc) (p : Nat) (W H : Int) (A : Option Addr) (n c : Nat) (w : World) (hr : I64R r) (hW : pix W = true) (hH : pix H = true) (hp : Blk w p 45 (scC W H A n c)) :
    Calls Try.prog 65 #[rcV r, .pointer (some ⟨p, 0, none⟩)] w fun e w' => e = .returned (.bool (!lies W H r)) ∧ Below w.heap.size w w' := by
  have y0 := hp.cell (v := .int .i64 W) 0 rfl
  have y1 := hp.cell (v := .int .i64 H) 1 rfl
  have z0 := hp.lt
  rw [pix_iff] at hW hH
  have E := hide (show ((!lies W H r) = true ↔ ¬ (0 ≤ r.x ∧ 0 ≤ r.y ∧ pix r.w = true ∧ pix r.h = true ∧ r.x ≤ W - r.w ∧ r.y ≤ H - r.h)) by rw [← lies_iff]; simp)
  obtain ⟨rx, ry, rw', rh⟩ := r
  simp only [rcV, I64R] at *
  have K1 := hide (fun w => pix_any rw' w)
  have K2 := hide (fun w => pix_any rh w)
  have Q1 := pix_iff (n := rw')
  have Q2 := pix_iff (n := rh)
  generalize (!lies W H ⟨rx, ry, rw', rh⟩) = v at *
  generalize pix rw' = p1 at *
  generalize pix rh = p2 at *
  clear hp
  by_cases h1 : rx < 0 ∨ ry < 0
  · have H : Hid (v = true) := hide (E.out.2 (by omega))
    clear E Q1 Q2
    go_enter Try.func65, Try.ntmps65
    go_wp2
    all_goals
      go_ret
      exact ⟨ret_bool H.out.symm, kalloc (Below.refl _ _) _⟩
  · cases p1
    · have H : Hid (v = true) := hide (E.out.2 (by simp))
      clear E Q1 Q2
      go_enter Try.func65, Try.ntmps65
      go_wp2_with (go_at_call 66; refine (K1.out _).mono ?_; rintro e w' ⟨rfl, rfl⟩)
      all_goals
        go_ret
        exact ⟨ret_bool H.out.symm, kalloc (Below.refl _ _) _⟩
    · have Q1' := Q1.1 rfl
      cases p2
      · have H : Hid (v = true) := hide (E.out.2 (by simp))
        clear E Q1 Q2
        go_enter Try.func65, Try.ntmps65
        go_wp2_with (go_at_call 66; (first | with_reducible refine (K1.out _).mono ?_ | with_reducible refine (K2.out _).mono ?_); rintro e w' ⟨rfl, rfl⟩)
        all_goals
          go_ret
          exact ⟨ret_bool H.out.symm, kalloc (Below.refl _ _) _⟩
      · have Q2' := Q2.1 rfl
        have H : Hid (v = true ↔ (W - rw' < rx ∨ H - rh < ry)) := hide (E.out.trans ⟨fun h => by simp only [true_and] at h; omega, fun h => by simp only [true_and]; omega⟩)
        clear E Q1 Q2
        by_cases h4 : W - rw' < rx
        all_goals
          go_enter Try.func65, Try.ntmps65
          go_wp2_with (go_at_call 66; (first | with_reducible refine (K1.out _).mono ?_ | with_reducible refine (K2.out _).mono ?_); rintro e w' ⟨rfl, rfl⟩)
          all_goals
            go_ret
            exact ⟨ret_bool (by rw [Bool.eq_iff_iff]; rw [H.out]; first | omega | (simp; done) | (simp; omega)), kalloc (Below.refl _ _) _⟩
/-- no region is odd -/
def noOdd (W H : Int) (bl : List Rc) : Bool := bl.all fun r => lies W H r
set_option maxHeartbeats 1000000 in
theorem index69_odd (A B : Option Addr) (c d n : Nat) (bl : List Rc) (p : Nat) (W H : Int) (w : World) (hS : Sl rcC 4 w A c bl) (hI : ∀ r ∈ bl, I64R r) (hW : pix W = true) (hH : pix H = true) (hp : Blk w p 45 (scC W H B n d)) :
    Calls Try.prog 69 #[.slice A bl.length c, .func (.func 65) #[] #[.pointer (some ⟨p, 0, none⟩)]] w fun e w' => (∃ i : Int, e = .returned (.int .i64 i) ∧ decide (0 ≤ i) = !noOdd W H bl) ∧ Below w.heap.size w w' := by
  have hlc := hS.le
  have hc := hS.max
  go_enter Try.func69, Try.ntmps69
  go_wp2
  go_loopw [8] (fun i wr => ∃ k : Nat, k ≤ bl.length ∧ i = .int .i64 k ∧ noOdd W H bl = noOdd W H (bl.drop k) ∧ Below w.heap.size w wr) (fun i _ => bl.length - (nI i).toNat)
  case atStart => exact ⟨0, Nat.zero_le _, rfl, rfl, Below.refl _ _⟩
  case round =>
    obtain ⟨k, hk, rfl, hq, hb0⟩ := hrel
    by_cases hlt : k < bl.length
    · obtain ⟨r, bb, off, hx, hdr, rfl, hbw, c0, c1, c2, c3⟩ := Sl.rc_at (hS.bel hb0) hlt
      rw [hdr, show noOdd W H (r :: bl.drop (k + 1)) = (lies W H r && noOdd W H (bl.drop (k + 1))) from rfl] at hq
      have hr := hI r (List.mem_of_getElem? hx)
      have K := hide (odd65_any r p W H B n d wr hr hW hH (hp.bel hb0))
      generalize lies W H r = v at K hq
      simp only [show rcV r = Value.agg #[.int .i64 r.x, .int .i64 r.y, .int .i64 r.w, .int .i64 r.h] from rfl] at K
      have HB := hide hb0
      clear hdr hx hS hI hr hb0 hW hH hp
      cases v
      · rw [Bool.false_and] at hq
        have H := hide hq
        clear hq
        go_wp2_with fail
        refine (K.out).mono ?_
        rintro e w' ⟨rfl, hb1⟩
        have hb2 := hide (HB.out.trans (hb1.mono HB.out.size))
        clear hb1 c0 c1 c2 c3
        go_wp2
        go_ret
        exact ⟨⟨_, rfl, by rw [H.out]; simp⟩, hb2.out⟩
      · rw [Bool.true_and] at hq
        have H := hide hq
        clear hq
        go_wp2_with fail
        refine (K.out).mono ?_
        rintro e w' ⟨rfl, hb1⟩
        have hb2 := hide (HB.out.trans (hb1.mono HB.out.size))
        clear hb1 c0 c1 c2 c3
        go_wp2
        go_roundw
        case rel => exact ⟨k + 1, by omega, by go_num, H.out, hb2.out⟩
        case measure => simp [nI]; omega
    · rw [List.drop_of_length_le (by omega)] at hq
      have H := hide hq
      clear hq
      go_wp2
      go_ret
      exact ⟨⟨_, rfl, by rw [H.out]; rfl⟩, hb0⟩
theorem contains61_odd (A B : Option Addr) (c d n : Nat) (bl : List Rc) (p : Nat) (W H : Int) (w : World) (hS : Sl rcC 4 w A c bl) (hI : ∀ r ∈ bl, I64R r) (hW : pix W = true) (hH : pix H = true) (hp : Blk w p 45 (scC W H B n d)) :
    Calls Try.prog 61 #[.slice A bl.length c, .func (.func 65) #[] #[.pointer (some ⟨p, 0, none⟩)]] w fun e w' => e = .returned (.bool (!noOdd W H bl)) ∧ Below w.heap.size w w' := by
  have K := hide (index69_odd A B c d n bl p W H w hS hI hW hH hp)
  generalize noOdd W H bl = f at K ⊢
  clear hS hI hp hW hH
  go_enter Try.func61, Try.ntmps61
  go_wp2_with fail
  refine (K.out).mono ?_
  rintro e w' ⟨⟨i, rfl, hi⟩, hb1⟩
  go_wp2
  go_ret
  exact ⟨ret_bool (by rw [← hi]), hb1⟩
theorem chkS_eq (W H : Int) (bl : List Rc) : chkS W H bl = if 32 < bl.length then 2 else if pix W && pix H && noOdd W H bl then 0 else 460 := rfl
set_option maxRecDepth 100000 in
set_option maxHeartbeats 1000000 in
theorem check31_any (W H : Int) (A : Option Addr) (c : Nat) (bl : List Rc) (w : World) (hS : Sl rcC 4 w A c bl) (hI : ∀ r ∈ bl, I64R r) :
    Calls Try.prog 31 #[scV W H A bl.length c] w fun e w' => e = .returned (.int .i64 (chkS W H bl)) ∧ Below w.heap.size w w' := by
  have hlc := hS.le
  have hc := hS.max
  have E := hide (chkS_eq W H bl)
  have K1 := hide (fun w => pix_any W w)
  have K2 := hide (fun w => pix_any H w)
  unfold scV
  generalize chkS W H bl = r at E ⊢
  by_cases h4 : 32 < bl.length
  · have g4 : decide ((32 : Int) < bl.length) = true := by simp; omega
    have E' := hide (E.out.trans (if_pos h4))
    clear E
    go_enter Try.func31, Try.ntmps31
    go_wp2
    go_ret
    exact ⟨ret_int E'.out.symm, kalloc (Below.refl _ _) _⟩
  · have g4 : decide ((32 : Int) < bl.length) = false := by simp; omega
    have E' := E.out.trans (if_neg h4)
    clear E
    by_cases hp : pix W = true ∧ pix H = true
    · have K := hide (contains61_odd A A c c bl.length bl w.heap.size W H _ (hS.alloc (.cells (scC W H A bl.length c) 45)) hI hp.1 hp.2 (Blk.new w _ 45))
      rw [hp.1] at K1
      rw [hp.2] at K2
      rw [hp.1, hp.2, Bool.true_and, Bool.true_and] at E'
      have E := hide E'
      simp only [scC] at K
      generalize noOdd W H bl = v at K E
      clear hp E' hS hI
      go_enter Try.func31, Try.ntmps31
      go_wp2_with (go_at_call 66; (first | with_reducible refine (K1.out _).mono ?_ | with_reducible refine (K2.out _).mono ?_); rintro e w' ⟨rfl, rfl⟩)
      refine (K.out).mono ?_
      rintro e w' ⟨rfl, hb1⟩
      cases v
      all_goals
        go_wp2
        go_ret
        exact ⟨ret_int E.out.symm, kcall (kalloc (Below.refl _ _) _) hb1⟩
    · have E : Hid (r = 460) := hide (E'.trans (by
        rw [if_neg]
        simp only [Bool.and_eq_true]
        rintro ⟨h, _⟩
        exact hp h))
      clear E' hS hI
      by_cases h1 : pix W = true
      · have h2 : pix H = false := by
          cases h : pix H
          · rfl
          · exact absurd ⟨h1, h⟩ hp
        rw [h1] at K1
        rw [h2] at K2
        clear hp h1 h2
        go_enter Try.func31, Try.ntmps31
        go_wp2_with (go_at_call 66; (first | with_reducible refine (K1.out _).mono ?_ | with_reducible refine (K2.out _).mono ?_); rintro e w' ⟨rfl, rfl⟩)
        go_ret
        exact ⟨ret_int E.out.symm, kalloc (Below.refl _ _) _⟩
      · have h1 : pix W = false := by simpa using h1
        rw [h1] at K1
        clear hp
        go_enter Try.func31, Try.ntmps31
        go_wp2_with (go_at_call 66; (first | with_reducible refine (K1.out _).mono ?_ | with_reducible refine (K2.out _).mono ?_); rintro e w' ⟨rfl, rfl⟩)
        go_ret
        exact ⟨ret_int E.out.symm, kalloc (Below.refl _ _) _⟩
theorem chkS_cases (W H : Int) (bl : List Rc) : chkS W H bl = 0 ∨ chkS W H bl = 2 ∨ chkS W H bl = 460 := by unfold chkS; split; exact .inr (.inl rfl); split; exact .inl rfl; exact .inr (.inr rfl)
set_option maxRecDepth 100000 in
set_option maxHeartbeats 1000000 in
theorem check59_any (W H : Int) (A : Option Addr) (c : Nat) (bl : List Rc) (bw bh : Int) (w : World) (hS : Sl rcC 4 w A c bl) (hI : ∀ r ∈ bl, I64R r) :
    Calls Try.prog 59 #[scV W H A bl.length c, .int .i64 bw, .int .i64 bh] w fun e w' => e = .returned (.int .i64 (chkA W H bl bw bh)) ∧ Below w.heap.size w w' := by
  have K := hide (check31_any W H A c bl _ (hS.alloc (.cells (scC W H A bl.length c) 45)) hI)
  have E := hide (show chkA W H bl bw bh = if chkS W H bl = 0 then (if pix bw && pix bh then 0 else 1) else chkS W H bl from rfl)
  have K1 := hide (fun w => pix_any bw w)
  have K2 := hide (fun w => pix_any bh w)
  have hx := chkS_cases W H bl
  simp only [scV, scC] at K ⊢
  generalize chkA W H bl bw bh = r at E ⊢
  generalize chkS W H bl = s at K E hx
  generalize pix bw = p1 at K1 E
  generalize pix bh = p2 at K2 E
  clear hS hI
  by_cases hs : s = 0
  · subst hs
    have E' := hide (E.out.trans (if_pos rfl))
    clear E hx
    cases p1
    all_goals
      cases p2
      all_goals
        go_enter Try.func59, Try.ntmps59
        go_wp2_with fail
        refine (K.out).mono ?_
        rintro e w' ⟨rfl, hb1⟩
        go_wp2_with (go_at_call 66; (first | with_reducible refine (K1.out _).mono ?_ | with_reducible refine (K2.out _).mono ?_); rintro e w' ⟨rfl, rfl⟩)
        go_ret
        exact ⟨ret_int E'.out.symm, kcall (kalloc (Below.refl _ _) _) hb1⟩
  · have E' := hide (E.out.trans (if_neg hs))
    clear E hx
    go_enter Try.func59, Try.ntmps59
    go_wp2_with fail
    refine (K.out).mono ?_
    rintro e w' ⟨rfl, hb1⟩
    go_wp2
    go_ret
    exact ⟨ret_int E'.out.symm, kcall (kalloc (Below.refl _ _) _) hb1⟩
end Go.Proofs.Ytchdoamoeccjkaa

/-
  regions: hits, pixels; which region is hit first.
-/
import Derived.Test.YtchdoamoeccjkaaRPure
import Derived.Test.YtchdoamoeccjkaaBlk
import Derived.Test.YtchdoamoeccjkaaRel
import Derived.Test.YtchdoamoeccjkaaProg
namespace Go.Proofs.Ytchdoamoeccjkaa
open Go.RowKit Go.Mine Go.Mine.R
attribute [local go_sem] Oper.semAt_some

/-- the cells of a rectangle -/
def rcC (r : Rc) : List Value := [.int .i64 r.x, .int .i64 r.y, .int .i64 r.w, .int .i64 r.h]
def rcV (r : Rc) : Value := .agg #[.int .i64 r.x, .int .i64 r.y, .int .i64 r.w, .int .i64 r.h]
theorem pix_iff {n : Int} : pix n = true ↔ 0 < n ∧ n ≤ 16384 := by simp [pix]
theorem pix_any (n : Int) (w : World) : Calls Try.prog 66 #[.int .i64 n] w fun e w' => e = .returned (.bool (pix n)) ∧ w = w' := by
  have H := hide (pix_iff (n := n))
  generalize pix n = r at H ⊢
  by_cases h1 : 0 < n
  all_goals
    go_enter Try.func66, Try.ntmps66
    go_wp2
    go_ret
    exact ⟨ret_bool (by rw [Bool.eq_iff_iff]; rw [H.out]; first | omega | (simp; done) | (simp; omega)), rfl⟩
theorem pixR_any (n : Int) (w : World) : Calls Try.prog 67 #[.int .i64 n] w fun e w' => e = .returned (.bool (pix n)) ∧ w = w' := by
  have H := hide (pix_iff (n := n))
  generalize pix n = r at H ⊢
  by_cases h1 : 1 ≤ n
  all_goals
    go_enter Try.func67, Try.ntmps67
    go_wp2
    go_ret
    exact ⟨ret_bool (by rw [Bool.eq_iff_iff]; rw [H.out]; first | omega | (simp; done) | (simp; omega)), rfl⟩
/-- small numbers -/
def I14 (n : Int) : Prop := -100000 ≤ n ∧ n ≤ 100000
def RcS (r : Rc) : Prop := I14 r.x ∧ I14 r.y ∧ I14 r.w ∧ I14 r.h
set_option maxHeartbeats 1000000 in
theorem hits_any (a b : Rc) (w : World) (ha : RcS a) (hb : RcS b) (pa : 0 < a.w ∧ 0 < a.h) (pb : 0 < b.w ∧ 0 < b.h) :
    Calls Try.prog 62 #[rcV a, rcV b] w fun e w' => e = .returned (.bool (hit a b)) ∧ Below w.heap.size w w' := by
  have H := hide (hit_iff (a := a) (b := b))
  obtain ⟨ax, ay, aw, ah⟩ := a
  obtain ⟨bx, by', bw, bh⟩ := b
  simp only [RcS, I14, rcV] at *
  generalize hit ⟨ax, ay, aw, ah⟩ ⟨bx, by', bw, bh⟩ = r at H ⊢
  by_cases h1 : max ax bx < min (ax + aw) (bx + bw)
  all_goals
    go_enter Try.func62, Try.ntmps62
    go_wp2
    all_goals
      go_ret
      exact ⟨ret_bool (by rw [Bool.eq_iff_iff]; rw [H.out]; first | omega | (simp; done) | (simp; omega)), kalloc (kalloc (Below.refl _ _) _) _⟩
set_option maxHeartbeats 1000000 in
theorem common_any (a b : Rc) (w : World) (ha : RcS a) (hb : RcS b) :
    Calls Try.prog 70 #[rcV a, rcV b] w fun e w' => e = .returned (.bool (hit a b)) ∧ Below w.heap.size w w' := by
  have H := hide (hit_iff (a := a) (b := b))
  obtain ⟨ax, ay, aw, ah⟩ := a
  obtain ⟨bx, by', bw, bh⟩ := b
  simp only [RcS, I14, rcV] at *
  generalize hit ⟨ax, ay, aw, ah⟩ ⟨bx, by', bw, bh⟩ = r at H ⊢
  by_cases h1 : ax < bx + bw
  · by_cases h2 : bx < ax + aw
    · by_cases h3 : ay < by' + bh
      all_goals
        go_enter Try.func70, Try.ntmps70
        go_wp2
        go_ret
        exact ⟨ret_bool (by rw [Bool.eq_iff_iff]; rw [H.out]; first | omega | (simp; done) | (simp; omega)), kalloc (kalloc (Below.refl _ _) _) _⟩
    · go_enter Try.func70, Try.ntmps70
      go_wp2
      go_ret
      exact ⟨ret_bool (by rw [Bool.eq_iff_iff]; rw [H.out]; first | omega | (simp; done) | (simp; omega)), kalloc (kalloc (Below.refl _ _) _) _⟩
  · go_enter Try.func70, Try.ntmps70
    go_wp2
    go_ret
    exact ⟨ret_bool (by rw [Bool.eq_iff_iff]; rw [H.out]; first | omega | (simp; done) | (simp; omega)), kalloc (kalloc (Below.refl _ _) _) _⟩

/-! ### the first region that is hit -/
theorem Sl.rc_at {w : World} {A : Option Addr} {c : Nat} {l : List Rc} (h : Sl rcC 4 w A c l) {k : Nat} (hk : k < l.length) : ∃ (r : Rc) (b off : Nat), l[k]? = some r ∧ l.drop k = r :: l.drop (k + 1) ∧ A = some ⟨b, off, none⟩ ∧ b < w.heap.size ∧
    w.cell? ⟨b, off + k * 4, none⟩ = some (.int .i64 r.x) ∧ w.cell? ⟨b, off + k * 4 + 1, none⟩ = some (.int .i64 r.y) ∧ w.cell? ⟨b, off + k * 4 + 2, none⟩ = some (.int .i64 r.w) ∧ w.cell? ⟨b, off + k * 4 + 3, none⟩ = some (.int .i64 r.h) := by
  obtain ⟨x, b, off, hx, hd, e, hb, hc⟩ := h.at_ hk
  exact ⟨x, b, off, hx, hd, e, hb, by simpa using hc 0 _ rfl, hc 1 _ rfl, hc 2 _ rfl, hc 3 _ rfl⟩
/-- the index of the first region that a box has a pixel in common with; -1 -/
def hitAt (bl : List Rc) (b : Rc) (k : Nat) : Int :=
  match bl with
  | [] => -1
  | r :: bl => if hit b r then k else hitAt bl b (k + 1)
theorem hitAt_cons (r : Rc) (bl : List Rc) (b : Rc) (k : Nat) : hitAt (r :: bl) b k = if hit b r then (k : Int) else hitAt bl b (k + 1) := rfl
theorem hitAt_neg : ∀ (bl : List Rc) (b : Rc) (k : Nat), decide (hitAt bl b k < 0) = free bl b.w b.h b.x b.y
  | [], _, _ => rfl
  | r :: bl, b, k => by
    rw [hitAt_cons, show free (r :: bl) b.w b.h b.x b.y = (!hit b r && free bl b.w b.h b.x b.y) from rfl]
    cases hit b r
    · simpa using hitAt_neg bl b (k + 1)
    · simp
theorem hitAt_ok : ∀ (bl : List Rc) (b : Rc) (k : Nat), -1 ≤ hitAt bl b k ∧ hitAt bl b k < k + bl.length
  | [], _, k => by simp [hitAt]; omega
  | r :: bl, b, k => by
    rw [hitAt_cons]
    have := hitAt_ok bl b (k + 1)
    simp only [List.length_cons]
    split <;> omega
theorem hitAt_hit : ∀ (bl : List Rc) (b : Rc) (k : Nat), 0 ≤ hitAt bl b k → ∃ i : Nat, hitAt bl b k = (k + i : Nat) ∧ ∃ r, bl[i]? = some r ∧ hit b r = true
  | [], _, _, h => by simp [hitAt] at h
  | r :: bl, b, k, h => by
    rw [hitAt_cons] at h ⊢
    cases hr : hit b r with
    | true => exact ⟨0, by simp, r, by simp, hr⟩
    | false =>
      rw [hr] at h
      obtain ⟨i, h1, x, h2, h3⟩ := hitAt_hit bl b (k + 1) (by simpa using h)
      refine ⟨i + 1, ?_, x, by simpa using h2, h3⟩
      simp only [Bool.false_eq_true, if_false]
      rw [h1]; omega
/-- regions as they lie on a right picture -/
def BlS (bl : List Rc) : Prop := ∀ r ∈ bl, RcS r ∧ 0 < r.w ∧ 0 < r.h
set_option maxHeartbeats 1000000 in
theorem index69_any (A : Option Addr) (c : Nat) (bl : List Rc) (b : Rc) (w : World) (hS : Sl rcC 4 w A c bl) (hB : BlS bl) (hb : RcS b) (pb : 0 < b.w ∧ 0 < b.h) :
    Calls Try.prog 69 #[.slice A bl.length c, .func (.func 62) #[rcV b] #[]] w fun e w' => e = .returned (.int .i64 (hitAt bl b 0)) ∧ Below w.heap.size w w' := by
  have hlc := hS.le
  have hc := hS.max
  go_enter Try.func69, Try.ntmps69
  go_wp2
  go_loopw [8] (fun i wr => ∃ k : Nat, k ≤ bl.length ∧ i = .int .i64 k ∧ hitAt bl b 0 = hitAt (bl.drop k) b k ∧ Below w.heap.size w wr) (fun i _ => bl.length - (nI i).toNat)
  case atStart => exact ⟨0, Nat.zero_le _, rfl, rfl, Below.refl _ _⟩
  case round =>
    obtain ⟨k, hk, rfl, hq, hb0⟩ := hrel
    by_cases hlt : k < bl.length
    · obtain ⟨r, bb, off, hx, hdr, rfl, hbw, c0, c1, c2, c3⟩ := Sl.rc_at (hS.bel hb0) hlt
      rw [hdr, hitAt_cons] at hq
      have hr := hB r (List.mem_of_getElem? hx)
      have K := hide (fun w => hits_any b r w hb hr.1 pb hr.2)
      generalize hit b r = v at K hq
      have H := hide hq
      have HB := hide hb0
      simp only [show rcV r = Value.agg #[.int .i64 r.x, .int .i64 r.y, .int .i64 r.w, .int .i64 r.h] from rfl] at K
      clear hdr hx hS hB hb pb hr hq hb0
      cases v
      · simp only [Bool.false_eq_true, if_false] at H
        go_wp2_with fail
        refine (K.out _).mono ?_
        rintro e w' ⟨rfl, hb1⟩
        have hb2 := hide (HB.out.trans (hb1.mono HB.out.size))
        clear hb1 c0 c1 c2 c3
        go_wp2
        go_roundw
        case rel => exact ⟨k + 1, by omega, by go_num, H.out, hb2.out⟩
        case measure => simp [nI]; omega
      · simp only [if_true] at H
        go_wp2_with fail
        refine (K.out _).mono ?_
        rintro e w' ⟨rfl, hb1⟩
        have hb2 := hide (HB.out.trans (hb1.mono HB.out.size))
        clear hb1 c0 c1 c2 c3
        go_wp2
        go_ret
        exact ⟨ret_int H.out.symm, hb2.out⟩
    · rw [List.drop_of_length_le (by omega)] at hq
      have H := hide hq
      clear hq
      go_wp2
      go_ret
      exact ⟨ret_int H.out.symm, hb0⟩
theorem contains61_any (A : Option Addr) (c : Nat) (bl : List Rc) (b : Rc) (w : World) (hS : Sl rcC 4 w A c bl) (hB : BlS bl) (hb : RcS b) (pb : 0 < b.w ∧ 0 < b.h) :
    Calls Try.prog 61 #[.slice A bl.length c, .func (.func 62) #[rcV b] #[]] w fun e w' => e = .returned (.bool (!free bl b.w b.h b.x b.y)) ∧ Below w.heap.size w w' := by
  have K := hide (index69_any A c bl b w hS hB hb pb)
  have H := hide (hitAt_neg bl b 0)
  generalize free bl b.w b.h b.x b.y = f at H ⊢
  generalize hitAt bl b 0 = i at K H
  clear hS hB hb pb
  go_enter Try.func61, Try.ntmps61
  go_wp2_with fail
  refine (K.out).mono ?_
  rintro e w' ⟨rfl, hb1⟩
  go_wp2
  go_ret
  exact ⟨ret_bool (by rw [← H.out, Bool.eq_iff_iff]; simp), hb1⟩
end Go.Proofs.Ytchdoamoeccjkaa

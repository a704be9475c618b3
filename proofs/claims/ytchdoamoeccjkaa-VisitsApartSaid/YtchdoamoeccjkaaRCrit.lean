/-
  regions.critical: what it lays.
-/
import Derived.Test.YtchdoamoeccjkaaRCheck
import Derived.Test.YtchdoamoeccjkaaRBack
import Derived.Test.YtchdoamoeccjkaaMapIns
namespace Go.Proofs.Ytchdoamoeccjkaa
open Go.RowKit Go.Shelf Go.Mine Go.Mine.R

def rowsK (H h : Int) (bl : List Rc) : List Int := (H - h) :: bl.map fun r => r.y - h
def colsK (bl : List Rc) : List Int := 0 :: bl.map fun r => r.x + r.w
theorem rowsK_mem {H h : Int} {bl : List Rc} {k : Int} : k ∈ rowsK H h bl ↔ rowB H bl h k := by
  unfold rowsK rowB
  simp only [List.mem_cons, List.mem_map]
  constructor
  · rintro (h | ⟨r, hr, rfl⟩); exact .inl h; exact .inr ⟨r, hr, rfl⟩
  · rintro (h | ⟨r, hr, rfl⟩); exact .inl h; exact .inr ⟨r, hr, rfl⟩
theorem colsK_mem {bl : List Rc} {k : Int} : k ∈ colsK bl ↔ colB bl k := by
  unfold colsK colB
  simp only [List.mem_cons, List.mem_map]
  constructor
  · rintro (h | ⟨r, hr, rfl⟩); exact .inl h; exact .inr ⟨r, hr, rfl⟩
  · rintro (h | ⟨r, hr, rfl⟩); exact .inl h; exact .inr ⟨r, hr, rfl⟩
theorem rowsK_snoc (H h : Int) (bl : List Rc) (r : Rc) : rowsK H h (bl ++ [r]) = rowsK H h bl ++ [r.y - h] := by simp [rowsK]
theorem colsK_snoc (bl : List Rc) (r : Rc) : colsK (bl ++ [r]) = colsK bl ++ [r.x + r.w] := by simp [colsK]
structure Crit (W H : Int) (A : Option Addr) (n c : Nat) (bw bh : Int) (rk ck : List Int) (b p7 p8 mr mc k : Nat) (w : World) : Prop where
  s : Blk w b 45 (scC W H A n c)
  w_ : Blk w (b + 1) 3 #[.int .i64 bw]
  h_ : Blk w (b + 2) 3 #[.int .i64 bh]
  r : Blk w p7 121 #[.map (some mr)]
  c_ : Blk w p8 121 #[.map (some mc)]
  rows : MapI Try.prog 3 w mr k (setM rk)
  cols : MapI Try.prog 3 w mc k (setM ck)
  lo : b ≤ p7 ∧ b ≤ p8 ∧ b ≤ mr ∧ b ≤ mc
  ne : mr ≠ mc
section
variable {W H : Int} {A : Option Addr} {n c : Nat} {bw bh : Int} {rk ck : List Int} {b p7 p8 mr mc k : Nat} {w w' : World}
theorem Crit.bel (h : Crit W H A n c bw bh rk ck b p7 p8 mr mc k w) (hb : Below w.heap.size w w') : Crit W H A n c bw bh rk ck b p7 p8 mr mc k w' :=
  ⟨h.s.bel hb, h.w_.bel hb, h.h_.bel hb, h.r.bel hb, h.c_.bel hb, h.rows.bel hb, h.cols.bel hb, h.lo, h.ne⟩
theorem Crit.row (h : Crit W H A n c bw bh rk ck b p7 p8 mr mc k w) (x : Int) (hM : MapI Try.prog 3 w' mr (k + 1) (setM (rk ++ [x]))) (hg : w.grownBy w' (some mr)) : Crit W H A n c bw bh (rk ++ [x]) ck b p7 p8 mr mc (k + 1) w' := by
  have q : ∀ {p : Nat} {ty : TypeId} {cs : Array Value}, Blk w p ty cs → some p ≠ some mr := fun hp e => map_notcells h.rows hp (Option.some.inj e)
  exact ⟨h.s.grown hg (q h.s), h.w_.grown hg (q h.w_), h.h_.grown hg (q h.h_), h.r.grown hg (q h.r), h.c_.grown hg (q h.c_), hM, (h.cols.kept hg (fun e => h.ne (Option.some.inj e).symm)).mono (Nat.le_succ _), h.lo, h.ne⟩
theorem Crit.col (h : Crit W H A n c bw bh rk ck b p7 p8 mr mc k w) (x : Int) (hM : MapI Try.prog 3 w' mc (k + 1) (setM (ck ++ [x]))) (hg : w.grownBy w' (some mc)) : Crit W H A n c bw bh rk (ck ++ [x]) b p7 p8 mr mc (k + 1) w' := by
  have q : ∀ {p : Nat} {ty : TypeId} {cs : Array Value}, Blk w p ty cs → some p ≠ some mc := fun hp e => map_notcells h.cols hp (Option.some.inj e)
  exact ⟨h.s.grown hg (q h.s), h.w_.grown hg (q h.w_), h.h_.grown hg (q h.h_), h.r.grown hg (q h.r), h.c_.grown hg (q h.c_), (h.rows.kept hg (fun e => h.ne (Option.some.inj e))).mono (Nat.le_succ _), hM, h.lo, h.ne⟩
end
set_option maxRecDepth 100000 in
set_option maxHeartbeats 2000000 in
theorem crit60_any (W H : Int) (A : Option Addr) (c : Nat) (bl : List Rc) (bw bh : Int) (w : World) (hS : Sl rcC 4 w A c bl) (hB : ∀ r ∈ bl, RcS r) (hH : I14 H) (hh : I14 bh) (hl : bl.length ≤ 1000) :
    Calls Try.prog 60 #[scV W H A bl.length c, .int .i64 bw, .int .i64 bh] w fun e w' => ∃ p7 p8 mr mc k, e = .returned (.func (.func 83) #[] #[.pointer (some ⟨p7, 0, none⟩), .pointer (some ⟨p8, 0, none⟩), .pointer (some ⟨w.heap.size, 0, none⟩), .pointer (some ⟨w.heap.size + 2, 0, none⟩), .pointer (some ⟨w.heap.size + 1, 0, none⟩)]) ∧
      Crit W H A bl.length c bw bh (rowsK H bh bl) (colsK bl) w.heap.size p7 p8 mr mc k w' ∧ k ≤ 10000 ∧ Below w.heap.size w w' := by
  have hlc := hS.le
  have hc := hS.max
  unfold scV
  unfold I14 at hH hh
  have hmm := @run_makeMap Try.prog
  go_enter Try.func60, Try.ntmps60
  go_wp2_with fail
  obtain ⟨w3, hw3⟩ : ∃ w3, ((w.alloc (.cells #[.int .i64 W, .int .i64 H, .slice A bl.length c] 45)).alloc (.cells #[.int .i64 bw] 3)).alloc (.cells #[.int .i64 bh] 3) = w3 := ⟨_, rfl⟩
  have z3 : w3.heap.size = w.heap.size + 1 + 1 + 1 := by rw [← hw3]; simp
  have s3 : Blk w3 w.heap.size 45 (scC W H A bl.length c) := by rw [← hw3]; exact ((Blk.new w _ _).alloc _).alloc _
  have w3' : Blk w3 (w.heap.size + 1) 3 #[.int .i64 bw] := by rw [← hw3]; exact (Blk.new1 w _ _ _).alloc _
  have h3 : Blk w3 (w.heap.size + 2) 3 #[.int .i64 bh] := by rw [← hw3]; exact Blk.new2 w _ _ _ _
  have b3 : Below w.heap.size w w3 := by rw [← hw3]; exact kalloc (kalloc (kalloc (Below.refl _ _) _) _) _
  rw [hw3, ← z3]
  clear hw3
  obtain ⟨w4, e4, M4, g4⟩ := (MapI.made w3 Try.prog 3).put Try.underlying3 Try.underlying121 (by unfold maxLen; omega) (show I64 (H - bh) by unfold I64; omega) (.bool true)
  rw [e4]
  have s4 := (s3.alloc (.map #[] 0)).grown g4 (by intro e; have := Option.some.inj e; omega)
  have w4' := (w3'.alloc (.map #[] 0)).grown g4 (by intro e; have := Option.some.inj e; omega)
  have h4 := (h3.alloc (.map #[] 0)).grown g4 (by intro e; have := Option.some.inj e; omega)
  have b4 : Below w.heap.size w w4 := (kalloc b3 (.map #[] 0)).grown g4 (by simp; omega) (fun g hg => by have := Option.some.inj hg; omega)
  have z4 := g4.size
  simp only [World.size_alloc] at z4
  rw [← setM_nil, setM_add] at M4
  clear e4 g4 b3 s3 w3' h3
  go_wp2_with fail
  have z4' := M4.lt
  obtain ⟨w5, e5, M5, g5⟩ := (MapI.made w4 Try.prog 3).put Try.underlying3 Try.underlying121 (by unfold maxLen; omega) (show I64 0 by unfold I64; omega) (.bool true)
  rw [e5]
  rw [← setM_nil, setM_add] at M5
  have b5 : Below w.heap.size w w5 := (kalloc b4 (.map #[] 0)).grown g5 (by simp; omega) (fun g hg => by have := Option.some.inj hg; omega)
  have z5 := g5.size
  simp only [World.size_alloc] at z5
  have C5 : ∀ p7 p8 w6, w6 = (w5.alloc (.cells #[.map (some w3.heap.size)] 121)).alloc (.cells #[.map (some w4.heap.size)] 121) → p7 = w5.heap.size → p8 = w5.heap.size + 1 → Crit W H A bl.length c bw bh [H - bh] [0] w.heap.size p7 p8 w3.heap.size w4.heap.size 1 w6 := by
    rintro p7 p8 w6 rfl rfl rfl
    refine ⟨?_, ?_, ?_, (Blk.new w5 _ _).alloc _, Blk.new1 w5 _ _ _, ((((M4.alloc (.map #[] 0)).kept g5 (by intro e; have := Option.some.inj e; omega)).alloc _).alloc _), (M5.alloc _).alloc _, by omega, by omega⟩
    · exact (((s4.alloc (.map #[] 0)).grown g5 (by intro e; have := Option.some.inj e; omega)).alloc _).alloc _
    · exact (((w4'.alloc (.map #[] 0)).grown g5 (by intro e; have := Option.some.inj e; omega)).alloc _).alloc _
    · exact (((h4.alloc (.map #[] 0)).grown g5 (by intro e; have := Option.some.inj e; omega)).alloc _).alloc _
  have b6 := kalloc (kalloc b5 (.cells #[.map (some w3.heap.size)] 121)) (.cells #[.map (some w4.heap.size)] 121)
  have hz5 : w.heap.size ≤ w5.heap.size := by omega
  rw [z3] at C5
  have y5 := ((s4.alloc (.map #[] 0)).grown g5 (by intro e; have := Option.some.inj e; omega)).cell (v := .slice A bl.length c) 2 rfl
  have y6 : w.heap.size < w5.heap.size := by omega
  clear e5 g5 M4 M5 s4 w4' h4 b5 b4
  go_wp2_with fail
  obtain ⟨w6, hw6⟩ : ∃ w6, (w5.alloc (.cells #[.map (some (w.heap.size + 1 + 1 + 1))] 121)).alloc (.cells #[.map (some w4.heap.size)] 121) = w6 := ⟨_, rfl⟩
  have C6 := C5 _ _ w6 hw6.symm rfl rfl
  have b6' : Below w.heap.size w w6 := by rw [← hw6]; rw [z3] at b6; exact b6
  rw [hw6]
  generalize w5.heap.size = p7 at *
  clear C5 b6 y5 hw6
  go_loopw [22] (fun i wr => ∃ k : Nat, k ≤ bl.length ∧ i = .int .i64 k ∧ Crit W H A bl.length c bw bh (rowsK H bh (bl.take k)) (colsK (bl.take k)) w.heap.size p7 (p7 + 1) (w.heap.size + 1 + 1 + 1) w4.heap.size (1 + 2 * k) wr ∧ Below w.heap.size w wr) (fun i _ => bl.length - (nI i).toNat)
  case atStart => exact ⟨0, Nat.zero_le _, rfl, C6, b6'⟩
  case round =>
    obtain ⟨k, hk, rfl, hC, hb0⟩ := hrel
    by_cases hlt : k < bl.length
    · obtain ⟨r, bb, off, hx, hdr, rfl, hbw, c0, c1, c2, c3⟩ := Sl.rc_at (hS.bel hb0) hlt
      obtain ⟨r1, r2, r3, r4⟩ := hB r (List.mem_of_getElem? hx)
      unfold I14 at r1 r2 r3 r4
      have e1 := hide (take_of_get hx)
      have u7 := hC.r.cell (v := .map (some (w.heap.size + 1 + 1 + 1))) 0 rfl
      have u8 := hC.c_.cell (v := .map (some w4.heap.size)) 0 rfl
      have l7 := hC.r.lt
      have l8 := hC.c_.lt
      have u5 := hC.h_.cell (v := .int .i64 bh) 0 rfl
      have l5 := hC.h_.lt
      have HC := hide hC
      have HB := hide hb0
      clear hdr hx hS hB hC hb0 C6 b6'
      go_wp2_with fail
      obtain ⟨v1, f1, M1, g1⟩ := (HC.out.rows.alloc (.cells #[.int .i64 r.x, .int .i64 r.y, .int .i64 r.w, .int .i64 r.h] 86)).put Try.underlying3 Try.underlying121 (by unfold maxLen; omega) (show I64 (r.y - bh) by unfold I64; omega) (.bool true)
      rw [f1]
      rw [setM_add] at M1
      have hlm := HC.out.rows.lt
      have D1 := (HC.out.bel ((Below.refl _ wr).alloc (Nat.le_refl _) (.cells #[.int .i64 r.x, .int .i64 r.y, .int .i64 r.w, .int .i64 r.h] 86))).row _ M1 g1
      have B1 : Below w.heap.size w v1 := Below.grown (kalloc HB.out _) g1 (by simp; omega) (fun g hg => by have := Option.some.inj hg; omega)
      have N1 := (Blk.new wr #[.int .i64 r.x, .int .i64 r.y, .int .i64 r.w, .int .i64 r.h] 86).grown g1 (by intro e; have := Option.some.inj e; omega)
      have a7 := D1.c_.cell (v := .map (some w4.heap.size)) 0 rfl
      have a8 := D1.c_.lt
      have n0 := N1.cell (v := .int .i64 r.x) 0 rfl
      have n2 := N1.cell (v := .int .i64 r.w) 2 rfl
      have nl := N1.lt
      have HD := hide D1
      have HB1 := hide B1
      clear f1 M1 g1 D1 B1 N1 HC HB u7 u8 u5 c0 c1 c2 c3
      go_wp2_with fail
      obtain ⟨v2, f2, M2, g2⟩ := HD.out.cols.put Try.underlying3 Try.underlying121 (by unfold maxLen; omega) (show I64 (r.x + r.w) by unfold I64; omega) (.bool true)
      rw [f2]
      rw [setM_add] at M2
      have D2 := HD.out.col _ M2 g2
      have hlm2 := HD.out.cols.lt
      have B2 : Below w.heap.size w v2 := Below.grown HB1.out g2 (by have := HB1.out.size; omega) (fun g hg => by have := Option.some.inj hg; omega)
      rw [← rowsK_snoc, ← colsK_snoc, ← e1.out] at D2
      have HD2 := hide D2
      have HB2 := hide B2
      clear f2 M2 g2 D2 B2 HD HB1 a7 n0 n2
      go_wp2
      go_roundw
      case rel => exact ⟨k + 1, by omega, by go_num, by rw [show 1 + 2 * (k + 1) = 1 + 2 * k + 1 + 1 by omega]; exact HD2.out, HB2.out⟩
      case measure => simp [nI]; omega
    · obtain rfl : k = bl.length := by omega
      rw [List.take_length] at hC
      have HC := hide hC
      have HB := hide hb0
      clear hC hb0 C6 b6' hS
      go_wp2
      go_ret
      exact ⟨p7, p7 + 1, _, _, _, rfl, HC.out, by omega, HB.out⟩
end Go.Proofs.Ytchdoamoeccjkaa

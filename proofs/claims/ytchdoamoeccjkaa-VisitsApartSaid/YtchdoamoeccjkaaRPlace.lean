/-
  regions.Place.
-/
import Derived.Test.YtchdoamoeccjkaaRIter
import Derived.Test.YtchdoamoeccjkaaCells
import Derived.BigRegionIn
namespace Go.Proofs.Ytchdoamoeccjkaa
open Go.RowKit Go.Shelf Go.Mine Go.Mine.R
attribute [local go_sem] Oper.semAt_some

structure Good (W H : Int) (bl : List Rc) (bw bh : Int) : Prop where
  W_ : 0 < W ∧ W ≤ 16384
  H_ : 0 < H ∧ H ≤ 16384
  w_ : 0 < bw ∧ bw ≤ 16384
  h_ : 0 < bh ∧ bh ≤ 16384
  few : bl.length ≤ 32
  all : ∀ r ∈ bl, 0 ≤ r.x ∧ 0 ≤ r.y ∧ 0 < r.w ∧ 0 < r.h ∧ r.x ≤ W - r.w ∧ r.y ≤ H - r.h
theorem chkS_zero {W H : Int} {bl : List Rc} (h : chkS W H bl = 0) : bl.length ≤ 32 ∧ pix W = true ∧ pix H = true ∧ noOdd W H bl = true := by
  rw [chkS_eq] at h
  split at h
  · omega
  · split at h
    · rename_i h1 h2
      simp only [Bool.and_eq_true] at h2
      exact ⟨by omega, h2.1.1, h2.1.2, h2.2⟩
    · omega
theorem chkA_zero {W H : Int} {bl : List Rc} {bw bh : Int} (h : chkA W H bl bw bh = 0) : Good W H bl bw bh := by
  unfold chkA at h
  split at h
  · rename_i hs
    split at h
    · rename_i hp
      simp only [Bool.and_eq_true] at hp
      obtain ⟨h1, h2, h3, h4⟩ := chkS_zero hs
      refine ⟨pix_iff.1 h2, pix_iff.1 h3, pix_iff.1 hp.1, pix_iff.1 hp.2, h1, fun r hr => ?_⟩
      have := List.all_eq_true.1 h4 r hr
      rw [lies_iff, pix_iff, pix_iff] at this
      omega
    · omega
  · rename_i hs; exact absurd h hs
section
variable {W H : Int} {bl : List Rc} {bw bh : Int}
theorem Good.i14 (g : Good W H bl bw bh) : I14 W ∧ I14 H ∧ I14 bw ∧ I14 bh := by
  obtain ⟨h1, h2, h3, h4, _, _⟩ := g
  unfold I14; omega
theorem Good.bls (g : Good W H bl bw bh) : BlS bl := fun r hr => by
  have := g.all r hr; have := g.W_; have := g.H_
  refine ⟨⟨?_, ?_, ?_, ?_⟩, ?_, ?_⟩ <;> first | (unfold I14; omega) | omega
theorem Good.rcs (g : Good W H bl bw bh) : ∀ r ∈ bl, RcS r := fun r hr => (g.bls r hr).1
theorem Good.rcx (g : Good W H bl bw bh) : ∀ r ∈ bl, RcS r ∧ 0 ≤ r.x ∧ 0 ≤ r.w := fun r hr => ⟨(g.bls r hr).1, (g.all r hr).1, by have := g.all r hr; omega⟩
theorem Good.at_ (g : Good W H bl bw bh) {p : Int × Int} (hp : p ∈ places W H bl bw bh) : RcS ⟨p.1, p.2, bw, bh⟩ := by
  have h2 := places_mem.1 hp
  have h3 := cols_mem.1 h2.1
  have h4 := rows_mem.1 h2.2
  have := g.W_; have := g.H_; have := g.w_; have := g.h_
  refine ⟨?_, ?_, ?_, ?_⟩ <;> (unfold I14; dsimp only; omega)
end
/-- what Place answers -/
def placeR (W H : Int) (bl : List Rc) (w h : Int) : Int × Int × Bool × Int := if chkA W H bl w h = 0 then (match place W H bl w h with | some p => (p.1, p.2, true, 0) | none => (0, 0, false, 0)) else (0, 0, false, chkA W H bl w h)
def placeV (r : Int × Int × Bool × Int) : Value := .tuple #[.int .i64 r.1, .int .i64 r.2.1, .bool r.2.2.1, .int .i64 r.2.2.2]
/-- four results' boxes -/
theorem four {W : World} {a : Nat} {x1 x2 x3 x4 : Value} (h1 : One W (a + 1) x1) (h2 : One W (a + 2) x2) (h3 : One W (a + 3) x3) (h4 : One W (a + 4) x4) (v1 v2 v3 v4 : Value) {b1 b2 b3 : Nat} (e1 : a + 2 = b1) (e2 : a + 3 = b2) (e3 : a + 4 = b3) :
    ∃ wf, (((W.setCell ⟨a + 1, 0, none⟩ v1).setCell ⟨b1, 0, none⟩ v2).setCell ⟨b2, 0, none⟩ v3).setCell ⟨b3, 0, none⟩ v4 = wf ∧ One wf (a + 1) v1 ∧ One wf (a + 2) v2 ∧ One wf (a + 3) v3 ∧ One wf (a + 4) v4 ∧
      (∀ (B : Nat) (A : World), B ≤ a + 1 → Below B A W → Below B A wf) ∧ (∀ b, b < a + 1 ∨ a + 4 < b → wf.heap[b]? = W.heap[b]?) ∧ wf.heap.size = W.heap.size := by
  subst e1 e2 e3
  refine ⟨_, rfl, (((h1.set v1).far _ (by omega)).far _ (by omega)).far _ (by omega), (((h2.far _ (by omega)).set v2).far _ (by omega)).far _ (by omega), (((h3.far _ (by omega)).far _ (by omega)).set v3).far _ (by omega), (((h4.far _ (by omega)).far _ (by omega)).far _ (by omega)).set v4, fun B A hB hb => ?_, fun b hb => ?_, by simp [World.setCell]⟩
  · exact (((hb.setCell (by dsimp only; omega) _).setCell (by dsimp only; omega) _).setCell (by dsimp only; omega) _).setCell (by dsimp only; omega) _
  · rw [Below.heap_setCell _ _ _ _ (by dsimp only; omega), Below.heap_setCell _ _ _ _ (by dsimp only; omega), Below.heap_setCell _ _ _ _ (by dsimp only; omega), Below.heap_setCell _ _ _ _ (by dsimp only; omega)]
theorem three {W : World} {a : Nat} {x1 x2 x3 : Value} (h1 : One W (a + 1) x1) (h2 : One W (a + 2) x2) (h3 : One W (a + 3) x3) (v1 v2 v3 : Value) {b1 b2 : Nat} (e1 : a + 2 = b1) (e2 : a + 3 = b2) :
    ∃ wf, ((W.setCell ⟨a + 1, 0, none⟩ v1).setCell ⟨b1, 0, none⟩ v2).setCell ⟨b2, 0, none⟩ v3 = wf ∧ One wf (a + 1) v1 ∧ One wf (a + 2) v2 ∧ One wf (a + 3) v3 ∧
      (∀ (B : Nat) (A : World), B ≤ a + 1 → Below B A W → Below B A wf) ∧ (∀ b, b < a + 1 ∨ a + 3 < b → wf.heap[b]? = W.heap[b]?) ∧ wf.heap.size = W.heap.size := by
  subst e1 e2
  refine ⟨_, rfl, ((h1.set v1).far _ (by omega)).far _ (by omega), ((h2.far _ (by omega)).set v2).far _ (by omega), ((h3.far _ (by omega)).far _ (by omega)).set v3, fun B A hB hb => ?_, fun b hb => ?_, by simp [World.setCell]⟩
  · exact ((hb.setCell (by dsimp only; omega) _).setCell (by dsimp only; omega) _).setCell (by dsimp only; omega) _
  · rw [Below.heap_setCell _ _ _ _ (by dsimp only; omega), Below.heap_setCell _ _ _ _ (by dsimp only; omega), Below.heap_setCell _ _ _ _ (by dsimp only; omega)]
theorem put_cell {w : World} {b D : Nat} {o : Obj} {v : Value} (h : w.cell? ⟨b, 0, none⟩ = some v) (hD : b ≠ D) : (w.putObj D o).cell? ⟨b, 0, none⟩ = some v :=
  (World.cell?_of_block (a := ⟨b, 0, none⟩) (World.putObj_heap_other hD)).trans h
set_option maxRecDepth 100000 in
set_option maxHeartbeats 2000000 in
theorem place29_bad (W H : Int) (A : Option Addr) (c : Nat) (bl : List Rc) (bw bh : Int) (w : World) (hS : Sl rcC 4 w A c bl) (hI : ∀ r ∈ bl, I64R r) (hne : chkA W H bl bw bh ≠ 0) :
    Calls Try.prog 29 #[scV W H A bl.length c, .int .i64 bw, .int .i64 bh] w fun e w' => e = .returned (placeV (placeR W H bl bw bh)) ∧ Below w.heap.size w w' := by
  have E := hide (show placeR W H bl bw bh = (0, 0, false, chkA W H bl bw bh) by unfold placeR; rw [if_neg hne])
  have K := hide (fun w (hS : Sl rcC 4 w A c bl) => check59_any W H A c bl bw bh w hS hI)
  simp only [scV] at K ⊢
  generalize placeR W H bl bw bh = R at E ⊢
  generalize chkA W H bl bw bh = s at *
  have hn : (s != 0) = true := by simpa using hne
  go_enter Try.func29, Try.ntmps29
  go_wp2_with fail
  refine (K.out _ (((((hS.alloc _).alloc _).alloc _).alloc _).alloc _)).mono ?_
  rintro e w1 ⟨rfl, hb1⟩
  have hq := kcall (kalloc (kalloc (kalloc (kalloc (kalloc (Below.refl _ w) _) _) _) _) _) hb1
  have o1 := (((((Blk.new1 w _ (#[.int .i64 0] : Array Value) 3).alloc _).alloc _).alloc _).bel hb1).one
  have o2 := ((((Blk.new2 w _ _ (#[.int .i64 0] : Array Value) 3).alloc _).alloc _).bel hb1).one
  have o3 := (((Blk.new3 w _ _ _ (#[.bool false] : Array Value) 4).alloc _).bel hb1).one
  have o4 := ((Blk.new' (cs := (#[.int .i64 0] : Array Value)) (ty := 25) (g := w.heap.size + 4) (by simp)).bel hb1).one
  have k1 := o1.cell
  have k2 := o2.cell
  have k3 := o3.cell
  have k4 := o4.cell
  have f1 := o1.thaw
  have f2 := o2.thaw
  have f3 := o3.thaw
  have f4 := o4.thaw
  clear K hS hb1
  go_wp2
  obtain ⟨wf, hwf, q1, q2, q3, q4, q5, _, _⟩ := four o1 o2 o3 o4 (.int .i64 0) (.int .i64 0) (.bool false) (.int .i64 s) (b1 := w.heap.size + 1 + 1) (b2 := w.heap.size + 1 + 1 + 1) (b3 := w.heap.size + 1 + 1 + 1 + 1) rfl rfl rfl
  rw [hwf]
  have p1 := q1.cell
  have p2 := q2.cell
  have p3 := q3.cell
  have p4 := q4.cell
  have hB := q5 _ _ (by omega) hq
  clear hwf k1 k2 k3 k4 f1 f2 f3 f4 o1 o2 o3 o4 hq
  refine bodyPost_ret (v := placeV (0, 0, false, s)) (by simp [results, Try.results29, go_sem, placeV, p1, p2, p3, p4]) rfl ⟨by rw [E.out], hB⟩
theorem place_find (W H : Int) (bl : List Rc) (bw bh : Int) : ((places W H bl bw bh).drop 0).find? (fun p => free bl bw bh p.1 p.2) = place W H bl bw bh := rfl
set_option maxRecDepth 100000 in
set_option maxHeartbeats 4000000 in
theorem place29_good (W H : Int) (A : Option Addr) (c : Nat) (bl : List Rc) (bw bh : Int) (w : World) (hS : Sl rcC 4 w A c bl) (hI : ∀ r ∈ bl, I64R r) (hz : chkA W H bl bw bh = 0) :
    Calls Try.prog 29 #[scV W H A bl.length c, .int .i64 bw, .int .i64 bh] w fun e w' => e = .returned (placeV (placeR W H bl bw bh)) ∧ Below w.heap.size w w' := by
  have G := chkA_zero hz
  obtain ⟨iW, iH, iw, ih⟩ := G.i14
  have hE := hide (show placeR W H bl bw bh = (match place W H bl bw bh with | some p => (p.1, p.2, true, 0) | none => (0, 0, false, 0)) by unfold placeR; rw [if_pos hz])
  have K := hide (fun w (hS : Sl rcC 4 w A c bl) => check59_any W H A c bl bw bh w hS hI)
  rw [hz] at K
  simp only [scV] at K ⊢
  generalize placeR W H bl bw bh = R at hE ⊢
  refine (callsIn_wide (n := 9)).1 (callsIn_of_wp_marks Try.func29 rfl trivial ?_ rfl)
  simp only [Try.ntmps29]
  simp only [List.size_toArray, List.length_cons, List.length_nil, Nat.reduceAdd, Nat.reduceSub, Array.replicate_succ, Array.replicate_zero, List.push_toArray, List.append_toArray, List.nil_append, List.cons_append]
  gi_wp2_with fail
  obtain ⟨w2, hw2⟩ : ∃ w2, (((((w.alloc (.cells #[.int .i64 W, .int .i64 H, .slice A bl.length c] 45)).alloc (.cells #[.int .i64 0] 3)).alloc (.cells #[.int .i64 0] 3)).alloc (.cells #[.bool false] 4)).alloc (.cells #[.int .i64 0] 25)) = w2 := ⟨_, rfl⟩
  have a0 : Blk w2 w.heap.size 45 (scC W H A bl.length c) := by rw [← hw2]; exact ((((Blk.new w _ _).alloc _).alloc _).alloc _).alloc _
  have a1 : Blk w2 (w.heap.size + 1) 3 #[.int .i64 0] := by rw [← hw2]; exact (((Blk.new1 w _ _ _).alloc _).alloc _).alloc _
  have a2 : Blk w2 (w.heap.size + 2) 3 #[.int .i64 0] := by rw [← hw2]; exact ((Blk.new2 w _ _ _ _).alloc _).alloc _
  have a3 : Blk w2 (w.heap.size + 3) 4 #[.bool false] := by rw [← hw2]; exact (Blk.new3 w _ _ _ _ _).alloc _
  have a4 : Blk w2 (w.heap.size + 4) 25 #[.int .i64 0] := by rw [← hw2]; exact Blk.new' (by simp)
  have hb2 : Below w.heap.size w w2 := by rw [← hw2]; exact kalloc (kalloc (kalloc (kalloc (kalloc (Below.refl _ _) _) _) _) _) _
  rw [hw2]
  clear hw2
  refine (callsIn_wide.2 (K.out w2 (hS.bel hb2))).mono ?_
  rintro e w3 ⟨rfl, hb3⟩
  have b0 := a0.bel hb3
  have b1 := a1.bel hb3
  have b2 := a2.bel hb3
  have b3 := a3.bel hb3
  have b4 := a4.bel hb3
  have hb3' := kcall hb2 hb3
  have y0 := b0.cell (v := .int .i64 W) 0 rfl
  have y1 := b0.cell (v := .int .i64 H) 1 rfl
  have y2 := b0.cell (v := .slice A bl.length c) 2 rfl
  clear K a0 a1 a2 a3 a4 hb2 hb3
  gi_wp2_with fail
  refine (callsIn_wide.2 (crit60_any W H A c bl bw bh w3 (hS.bel hb3') G.rcs iH ih (by have := G.few; omega))).mono ?_
  rintro e w4 ⟨p7, p8, mr, mc, kk, rfl, hC, hk, hb4⟩
  have hit := crit83_iter w4 W H A bl.length c bw bh bl w3.heap.size p7 p8 mr mc kk hC hk iW iH iw ih G.rcx
  have c0 := b0.bel hb4
  have c1 := b1.bel hb4
  have c2 := b2.bel hb4
  have c3 := b3.bel hb4
  have c4 := b4.bel hb4
  have hb4' := kcall hb3' hb4
  have hz4 := hb4.size
  have hz3 := b4.lt
  clear b0 b1 b2 b3 b4 hb3' hb4 y0 y1 y2 hC hk iW iH iw ih
  gi_wp2_with fail
  refine wpIn_rangeG (gf := 83) (lb := #[.pointer (some ⟨p7, 0, none⟩), .pointer (some ⟨p8, 0, none⟩), .pointer (some ⟨w3.heap.size, 0, none⟩), .pointer (some ⟨w3.heap.size + 2, 0, none⟩), .pointer (some ⟨w3.heap.size + 1, 0, none⟩)]) rfl (enters_of Try.func83 (by kernel_rfl) rfl) (fun p : Int × Int => #[rcV ⟨p.1, p.2, bw, bh⟩]) hit (Nat.le_refl _) (fun b hb => ⟨hb.2, rfl⟩) (fun _ => rfl)
    (fun k O X => (∀ x, O x → w4.heap.size ≤ x) ∧ Below w4.heap.size w4 X ∧ ((places W H bl bw bh).drop k).find? (fun p => free bl bw bh p.1 p.2) = place W H bl bw bh)
    (fun c O X => c = .ret ∧ (∀ x, O x → w4.heap.size ≤ x) ∧ w4.heap.size ≤ X.heap.size ∧ ∃ p, place W H bl bw bh = some p ∧ One X (w.heap.size + 1) (.int .i64 p.1) ∧ One X (w.heap.size + 2) (.int .i64 p.2) ∧ One X (w.heap.size + 3) (.bool true) ∧ One X (w.heap.size + 4) (.int .i64 0) ∧ Below w.heap.size w X)
    ?_ ?_ ?_ ?body ?done ?stop
  · rintro k O O' X X' ⟨h1, h2, h3⟩ st
    exact ⟨O_step st h1 h2.size, st.below h2 h2.size (fun b hb => h1 b hb), h3⟩
  · rintro k O O' X X' ⟨h0, h1, h2, p, h3, h4, h5, h6, h7, h8⟩ st
    exact ⟨h0, O_step st h1 h2, Nat.le_trans h2 st.size, p, h3, h4.step st (fun ho => by have := h1 _ ho; omega), h5.step st (fun ho => by have := h1 _ ho; omega), h6.step st (fun ho => by have := h1 _ ho; omega), h7.step st (fun ho => by have := h1 _ ho; omega), st.below h8 (by omega) (fun b hb => by have := h1 b hb; omega)⟩
  · exact ⟨fun b hb => hb.elim, Below.refl _ _, place_find W H bl bw bh⟩
  case body =>
    rintro lp k p O X hx ⟨h1, h2, h3⟩ hO hzX
    have hr := G.at_ (List.mem_of_getElem? hx)
    rw [drop_of_get hx, List.find?_cons] at h3
    have H1 := hide h1
    have H3 := hide h3
    have HO := hide hO
    clear h1 h3 hO hx hit
    simp only [show rcV ⟨p.1, p.2, bw, bh⟩ = Value.agg #[.int .i64 p.1, .int .i64 p.2, .int .i64 bw, .int .i64 bh] from rfl]
    gi_wp2
    refine ⟨(Kept.refl _ _).alloc _, fun W2 st hz2 => ?_⟩
    have hb5 : Below w4.heap.size w4 W2 := st.below (h2.alloc h2.size _) (by have := h2.size; simp; omega) (fun b hb => H1.out b hb)
    have nb : Blk W2 X.heap.size 90 #[.int .i64 p.1, .int .i64 p.2, .int .i64 bw, .int .i64 bh] := blk_heap (Blk.new X _ _) (st.keep _ (by simp) (fun ho => by have := HO.out _ ho; omega))
    have d0 := c0.bel hb5
    have d1 := c1.bel hb5
    have d2 := c2.bel hb5
    have d3 := c3.bel hb5
    have d4 := c4.bel hb5
    have hSX := hS.bel (kcall hb4' hb5)
    have K := hide (contains61_any A c bl ⟨p.1, p.2, bw, bh⟩ W2 hSX G.bls hr ⟨G.w_.1, G.h_.1⟩)
    have y2 := d0.cell (v := .slice A bl.length c) 2 rfl
    have n0 := nb.cell (v := .int .i64 p.1) 0 rfl
    have n1 := nb.cell (v := .int .i64 p.2) 1 rfl
    have n2 := nb.cell (v := .int .i64 bw) 2 rfl
    have n3 := nb.cell (v := .int .i64 bh) 3 rfl
    have HB := hide hb5
    simp only [show rcV ⟨p.1, p.2, bw, bh⟩ = Value.agg #[.int .i64 p.1, .int .i64 p.2, .int .i64 bw, .int .i64 bh] from rfl] at K
    clear hb5 h2 hr st hSX
    gi_wp2_with fail
    refine (CallsIn.inRound lp (callsIn_wide.2 K.out)).mono ?_
    rintro e W3 ⟨rfl, hb6⟩
    generalize free bl bw bh p.1 p.2 = fr at *
    have e0 := nb.bel hb6
    have HB6 := hide hb6
    have hb7 := hide (HB.out.trans (hb6.mono HB.out.size))
    have f1 := d1.bel hb6
    have f2 := d2.bel hb6
    have f3 := d3.bel hb6
    have f4 := d4.bel hb6
    clear hb6 y2 n0 n1 n2 n3 K d0 d1 d2 d3 d4
    cases fr
    · have H3' := hide (show ((places W H bl bw bh).drop (k + 1)).find? (fun p => free bl bw bh p.1 p.2) = place W H bl bw bh from H3.out)
      gi_wp2
      exact ⟨(Kept.of_below HB6.out), H1.out, hb7.out, H3'.out⟩
    · have n0 := e0.cell (v := .int .i64 p.1) 0 rfl
      have n1 := e0.cell (v := .int .i64 p.2) 1 rfl
      have g1 := f1.thaw 0
      have g2 := f2.thaw 0
      have g3 := f3.thaw 0
      have g4 := f4.thaw 0
      have l1 := f1.cell 0 rfl
      have l2 := f2.cell 0 rfl
      have l3 := f3.cell 0 rfl
      have l4 := f4.cell 0 rfl
      have hp : place W H bl bw bh = some p := H3.out.symm
      have hp := hide hp
      obtain ⟨wf, hwf, q1, q2, q3, q4, q5, q6, q7⟩ := four f1.one f2.one f3.one f4.one (.int .i64 p.1) (.int .i64 p.2) (.bool true) (.int .i64 0) (b1 := w.heap.size + 1 + 1) (b2 := w.heap.size + 1 + 1 + 1) (b3 := w.heap.size + 1 + 1 + 1 + 1) rfl rfl rfl
      have hlo : w.heap.size + 4 < w4.heap.size := by omega
      have hBf := (q5 _ _ (by omega) (hb4'.trans (hb7.out.mono (by omega)))).drew
      have hs7 := hb7.out.size
      have hKf : Kept (fun x => O x ∨ (w3.heap.size ≤ x ∧ x < w4.heap.size)) W2 wf := (Kept.of_below HB6.out).trans ⟨by rw [← hwf]; rfl, by rw [← hwf]; rfl, by rw [← hwf]; rfl, by rw [q7]; exact Nat.le_refl _, fun x hx hr => by
        refine (q6 x (.inr ?_)).trans rfl
        rcases hr with h | h
        · have := H1.out x h; omega
        · omega⟩
      have HR := hide (show ∃ p, place W H bl bw bh = some p ∧ One wf.drew (w.heap.size + 1) (.int .i64 p.1) ∧ One wf.drew (w.heap.size + 2) (.int .i64 p.2) ∧ One wf.drew (w.heap.size + 3) (.bool true) ∧ One wf.drew (w.heap.size + 4) (.int .i64 0) ∧ Below w.heap.size w wf.drew from ⟨p, hp.out, q1.drew, q2.drew, q3.drew, q4.drew, hBf⟩)
      have HKf := hide hKf
      have Hwf := hide hwf
      have hz7 : w4.heap.size ≤ wf.heap.size := by rw [q7]; exact hs7
      clear hKf hBf q1 q2 q3 q4 q5 q6 q7 hwf
      gi_wp2_with fail
      gi_region
      all_goals
        gi_wp2
        rw [Hwf.out]
        exact ⟨HKf.out.drew, rfl, H1.out, hz7, HR.out⟩
  case done =>
    rintro O X ⟨h1, h2, h3⟩ hO hD hOD hz
    rw [List.drop_length] at h3
    have hE' : R = (0, 0, false, 0) := by rw [hE.out, ← h3]; rfl
    have d1 := c1.bel h2
    have d2 := c2.bel h2
    have d3 := c3.bel h2
    have d4 := c4.bel h2
    have k1 := d1.one.cell
    have k2 := d2.one.cell
    have k3 := d3.one.cell
    have k4 := d4.one.cell
    have f1 := d1.one.thaw
    have f2 := d2.one.thaw
    have f3 := d3.one.thaw
    have f4 := d4.one.thaw
    gi_wp2_with fail
    obtain ⟨wf, hwf, q1, q2, q3, q4, q5, q6, _⟩ := four d1.one d2.one d3.one d4.one (.int .i64 0) (.int .i64 0) (.bool false) (.int .i64 0) (b1 := w.heap.size + 1 + 1) (b2 := w.heap.size + 1 + 1 + 1) (b3 := w.heap.size + 1 + 1 + 1 + 1) rfl rfl rfl
    rw [hwf]
    have hlo : w.heap.size + 4 < w4.heap.size := by omega
    have p1 := (q1.put (D := w4.heap.size) (.deferred none) (by omega)).cell
    have p2 := (q2.put (D := w4.heap.size) (.deferred none) (by omega)).cell
    have p3 := (q3.put (D := w4.heap.size) (.deferred none) (by omega)).cell
    have p4 := (q4.put (D := w4.heap.size) (.deferred none) (by omega)).cell
    have hB := q5 _ _ (by omega) (hb4'.trans (h2.mono (by omega)))
    have hD' := (q6 w4.heap.size (by omega)).trans hD
    clear hwf k1 k2 k3 k4 f1 f2 f3 f4
    rw [hE']
    exact leaves_mark1 (v := placeV (0, 0, false, 0)) hD' (by simp [results, Try.results29, go_sem, placeV, p1, p2, p3, p4]) ⟨rfl, below_put hB _ (by omega)⟩
  case stop =>
    rintro cc O X ⟨rfl, h1, h2, p, h3, h4, h5, h6, h7, h8⟩ hO hD hOD hz
    have hE' : R = (p.1, p.2, true, 0) := by rw [hE.out, h3]
    gi_wp2_with fail
    have hlo : w.heap.size + 4 < w4.heap.size := by omega
    have p1 := (h4.put (D := w4.heap.size) (.deferred none) (by omega)).cell
    have p2 := (h5.put (D := w4.heap.size) (.deferred none) (by omega)).cell
    have p3 := (h6.put (D := w4.heap.size) (.deferred none) (by omega)).cell
    have p4 := (h7.put (D := w4.heap.size) (.deferred none) (by omega)).cell
    rw [hE']
    exact leaves_mark1 (v := placeV (p.1, p.2, true, 0)) hD (by simp [results, Try.results29, go_sem, placeV, p1, p2, p3, p4]) ⟨rfl, below_put h8 _ (by omega)⟩
end Go.Proofs.Ytchdoamoeccjkaa

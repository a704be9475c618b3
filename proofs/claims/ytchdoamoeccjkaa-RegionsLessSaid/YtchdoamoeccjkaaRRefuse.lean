/-
  regions.Refutes.
-/
import Derived.Test.YtchdoamoeccjkaaRDeny
import Derived.Test.YtchdoamoeccjkaaStillIn
namespace Go.Proofs.Ytchdoamoeccjkaa
open Go.RowKit Go.Shelf Go.Mine Go.Mine.R
attribute [local go_sem] Oper.semAt_some

/-- a proof's number denies a place -/
def hitsAt (bl : List Rc) (bw bh : Int) (p : Int × Int) (i : Int) : Bool := decide (0 ≤ i) && (match bl[i.toNat]? with | some r => hit ⟨p.1, p.2, bw, bh⟩ r | none => false)
def provesGo (bl : List Rc) (bw bh : Int) : List (Int × Int) → List Int → Bool
  | [], [] => true
  | p :: ps, i :: l => hitsAt bl bw bh p i && provesGo bl bw bh ps l
  | _, _ => false
def refB (W H : Int) (bl : List Rc) (bw bh : Int) (l : List Int) : Bool := decide (chkA W H bl bw bh = 0) && provesGo bl bw bh (places W H bl bw bh) l
theorem proves_len {bl : List Rc} {bw bh : Int} : ∀ {ps : List (Int × Int)} {l : List Int}, ps.length ≠ l.length → provesGo bl bw bh ps l = false
  | [], [], h => by simp at h
  | [], _ :: _, _ => rfl
  | _ :: _, [], _ => rfl
  | p :: ps, i :: l, h => by rw [provesGo, proves_len (by simpa using h), Bool.and_false]
set_option maxRecDepth 100000 in
set_option maxHeartbeats 2000000 in
theorem refutes35_bad (W H : Int) (A B : Option Addr) (c d : Nat) (bl : List Rc) (bw bh : Int) (l : List Int) (w : World) (hS : Sl rcC 4 w A c bl) (hI : ∀ r ∈ bl, I64R r) (hne : chkA W H bl bw bh ≠ 0) :
    Calls Try.prog 35 #[scV W H A bl.length c, .int .i64 bw, .int .i64 bh, .slice B l.length d] w fun e w' => e = .returned (.tuple #[.bool (refB W H bl bw bh l), .int .i64 (chkA W H bl bw bh)]) ∧ Below w.heap.size w w' := by
  have E := hide (show refB W H bl bw bh l = false by unfold refB; simp [hne])
  have K := hide (fun w (hS : Sl rcC 4 w A c bl) => check59_any W H A c bl bw bh w hS hI)
  simp only [scV] at K ⊢
  generalize refB W H bl bw bh l = R at E ⊢
  generalize chkA W H bl bw bh = s at *
  have hn : (s != 0) = true := by simpa using hne
  go_enter Try.func35, Try.ntmps35
  go_wp2_with fail
  refine (K.out _ ((((hS.alloc _).alloc _).alloc _).alloc _)).mono ?_
  rintro e w1 ⟨rfl, hb1⟩
  have hq := kcall (kalloc (kalloc (kalloc (kalloc (Below.refl _ w) _) _) _) _) hb1
  have o2 := (((Blk.new2 w _ _ (#[.bool false] : Array Value) 4).alloc _).bel hb1).one
  have o3 := ((Blk.new3 w _ _ _ (#[.int .i64 0] : Array Value) 25).bel hb1).one
  have k2 := o2.cell
  have k3 := o3.cell
  have f2 := o2.thaw
  have f3 := o3.thaw
  clear K hS hb1
  go_wp2
  have q2 := (o2.set (.bool false)).far (a := w.heap.size + 1 + 1 + 1) (.int .i64 s) (by omega)
  have q3 := (o3.far (a := w.heap.size + 1 + 1) (.bool false) (by omega)).set (.int .i64 s)
  have hB := (hq.setCell (p := ⟨w.heap.size + 1 + 1, 0, none⟩) (by dsimp only; omega) (.bool false)).setCell (p := ⟨w.heap.size + 1 + 1 + 1, 0, none⟩) (by dsimp only; omega) (.int .i64 s)
  have p2 := q2.cell
  have p3 := q3.cell
  clear k2 k3 f2 f3 o2 o3 hq q2 q3
  generalize (w1.setCell ⟨w.heap.size + 1 + 1, 0, none⟩ (.bool false)).setCell ⟨w.heap.size + 1 + 1 + 1, 0, none⟩ (.int .i64 s) = wf at *
  exact bodyPost_ret (v := .tuple #[.bool false, .int .i64 s]) (by simp [results, Try.results35, go_sem, p2, p3]) rfl ⟨by rw [E.out], hB⟩
theorem proves_cons (bl : List Rc) (bw bh : Int) (p : Int × Int) (ps : List (Int × Int)) (i : Int) (l : List Int) : provesGo bl bw bh (p :: ps) (i :: l) = (hitsAt bl bw bh p i && provesGo bl bw bh ps l) := rfl
theorem proves_short (bl : List Rc) (bw bh : Int) (p : Int × Int) (ps : List (Int × Int)) : provesGo bl bw bh (p :: ps) [] = false := rfl
theorem proves_end (bl : List Rc) (bw bh : Int) (l : List Int) : provesGo bl bw bh [] l = decide (l.length = 0) := by cases l <;> rfl
theorem two {W : World} {a : Nat} {x1 x2 : Value} (h1 : One W (a + 2) x1) (h2 : One W (a + 3) x2) (v1 v2 : Value) {b1 b2 : Nat} (e1 : a + 2 = b1) (e2 : a + 3 = b2) :
    ∃ wf, (W.setCell ⟨b1, 0, none⟩ v1).setCell ⟨b2, 0, none⟩ v2 = wf ∧ One wf (a + 2) v1 ∧ One wf (a + 3) v2 ∧
      (∀ (B : Nat) (A : World), B ≤ a + 2 → Below B A W → Below B A wf) ∧ (∀ b, b < a + 2 ∨ a + 3 < b → wf.heap[b]? = W.heap[b]?) ∧ wf.heap.size = W.heap.size := by
  subst e1 e2
  refine ⟨_, rfl, (h1.set v1).far _ (by omega), (h2.far _ (by omega)).set v2, fun B A hB hb => ?_, fun b hb => ?_, by simp [World.setCell]⟩
  · exact (hb.setCell (by dsimp only; omega) _).setCell (by dsimp only; omega) _
  · rw [Below.heap_setCell _ _ _ _ (by dsimp only; omega), Below.heap_setCell _ _ _ _ (by dsimp only; omega)]
/-- the way out of a round -/
theorem ref_out {w W2 X wf : World} {O : Nat → Prop} {w3s w4s a : Nat} (hk : Below W2.heap.size W2 X) (h2 : One X (a + 2) (.bool false)) (h3 : One X (a + 3) (.int .i64 0)) (hlo : a + 3 < w3s) (hw : w4s ≤ W2.heap.size) (h34 : w3s ≤ w4s) (hB : Below w.heap.size w W2) (ha : w.heap.size = a) (hO : ∀ x, O x → w4s ≤ x)
    (hwf : (X.setCell ⟨a + 1 + 1, 0, none⟩ (.bool false)).setCell ⟨a + 1 + 1 + 1, 0, none⟩ (.int .i64 0) = wf) :
    Kept (fun x => O x ∨ (w3s ≤ x ∧ x < w4s)) W2 wf ∧ w4s ≤ wf.heap.size ∧ One wf (a + 2) (.bool false) ∧ One wf (a + 3) (.int .i64 0) ∧ Below w.heap.size w wf := by
  obtain ⟨wf', e, q1, q2, q3, q4, q5⟩ := two h2 h3 (.bool false) (.int .i64 0) (b1 := a + 1 + 1) (b2 := a + 1 + 1 + 1) rfl rfl
  obtain rfl : wf' = wf := e.symm.trans hwf
  have hs := hk.size
  refine ⟨(Kept.of_below hk).trans ⟨by rw [← e]; rfl, by rw [← e]; rfl, by rw [← e]; rfl, by rw [q5]; exact Nat.le_refl _, fun x hx hr => q4 x (.inr ?_)⟩, by omega, q1, q2, q3 _ _ (by omega) (hB.trans (hk.mono hB.size))⟩
  rcases hr with h | h
  · have := hO x h; omega
  · omega
set_option maxRecDepth 100000 in
set_option maxHeartbeats 4000000 in
theorem refutes35_good (W H : Int) (A B : Option Addr) (c d : Nat) (bl : List Rc) (bw bh : Int) (l : List Int) (w : World) (hS : Sl rcC 4 w A c bl) (hI : ∀ r ∈ bl, I64R r) (hL : Sl ic 1 w B d l) (hz : chkA W H bl bw bh = 0) :
    Calls Try.prog 35 #[scV W H A bl.length c, .int .i64 bw, .int .i64 bh, .slice B l.length d] w fun e w' => e = .returned (.tuple #[.bool (refB W H bl bw bh l), .int .i64 0]) ∧ Below w.heap.size w w' := by
  have G := chkA_zero hz
  obtain ⟨iW, iH, iw, ih⟩ := G.i14
  have hlc := hS.le
  have hc := hS.max
  have hld := hL.le
  have hd := hL.max
  have hE := hide (show refB W H bl bw bh l = provesGo bl bw bh (places W H bl bw bh) l by unfold refB; rw [decide_eq_true hz, Bool.true_and])
  have K := hide (fun w (hS : Sl rcC 4 w A c bl) => check59_any W H A c bl bw bh w hS hI)
  rw [hz] at K
  simp only [scV] at K ⊢
  generalize refB W H bl bw bh l = R at hE ⊢
  refine (callsIn_wide (n := 9)).1 (callsIn_of_wp_marks Try.func35 rfl trivial ?_ rfl)
  simp only [Try.ntmps35]
  simp only [List.size_toArray, List.length_cons, List.length_nil, Nat.reduceAdd, Nat.reduceSub, Array.replicate_succ, Array.replicate_zero, List.push_toArray, List.append_toArray, List.nil_append, List.cons_append]
  gi_wp2_with fail
  obtain ⟨w2, hw2⟩ : ∃ w2, ((((w.alloc (.cells #[.int .i64 W, .int .i64 H, .slice A bl.length c] 45)).alloc (.cells #[.slice B l.length d] 33)).alloc (.cells #[.bool false] 4)).alloc (.cells #[.int .i64 0] 25)) = w2 := ⟨_, rfl⟩
  have a0 : Blk w2 w.heap.size 45 (scC W H A bl.length c) := by rw [← hw2]; exact (((Blk.new w _ _).alloc _).alloc _).alloc _
  have a1 : Blk w2 (w.heap.size + 1) 33 #[.slice B l.length d] := by rw [← hw2]; exact ((Blk.new1 w _ _ _).alloc _).alloc _
  have a2 : Blk w2 (w.heap.size + 2) 4 #[.bool false] := by rw [← hw2]; exact (Blk.new2 w _ _ _ _).alloc _
  have a3 : Blk w2 (w.heap.size + 3) 25 #[.int .i64 0] := by rw [← hw2]; exact Blk.new3 w _ _ _ _ _
  have hb2 : Below w.heap.size w w2 := by rw [← hw2]; exact kalloc (kalloc (kalloc (kalloc (Below.refl _ _) _) _) _) _
  rw [hw2]
  clear hw2
  refine (callsIn_wide.2 (K.out w2 (hS.bel hb2))).mono ?_
  rintro e w3 ⟨rfl, hb3⟩
  have b0 := (a0.bel hb3).alloc (.cells #[.int .i64 0] 3)
  have b1 := (a1.bel hb3).alloc (.cells #[.int .i64 0] 3)
  have b2 := (a2.bel hb3).alloc (.cells #[.int .i64 0] 3)
  have b3 := (a3.bel hb3).alloc (.cells #[.int .i64 0] 3)
  have b4 := Blk.new w3 #[.int .i64 0] 3
  have hb3' := kalloc (kcall hb2 hb3) (.cells #[.int .i64 0] 3)
  have x0 := (a0.bel hb3).cell (v := .int .i64 W) 0 rfl
  have x1 := (a0.bel hb3).cell (v := .int .i64 H) 1 rfl
  have x2 := (a0.bel hb3).cell (v := .slice A bl.length c) 2 rfl
  have xl := (a0.bel hb3).lt
  have hs3 : w.heap.size + 4 ≤ w3.heap.size := by have := (a3.bel hb3).lt; omega
  clear K a0 a1 a2 a3 hb2 hb3
  gi_wp2_with fail
  obtain ⟨w3', hw3'⟩ : ∃ x, w3.alloc (.cells #[.int .i64 0] 3) = x := ⟨_, rfl⟩
  have hz3' : w3'.heap.size = w3.heap.size + 1 := by rw [← hw3']; simp
  rw [hw3'] at b0 b1 b2 b3 b4 hb3' ⊢
  clear hw3'
  refine (callsIn_wide.2 (crit60_any W H A c bl bw bh w3' (hS.bel hb3') G.rcs iH ih (by have := G.few; omega))).mono ?_
  rintro e w4 ⟨p7, p8, mr, mc, kk, rfl, hC, hk, hb4⟩
  have hit := crit83_iter w4 W H A bl.length c bw bh bl w3'.heap.size p7 p8 mr mc kk hC hk iW iH iw ih G.rcx
  rw [hz3'] at hit
  have c0 := b0.bel hb4
  have c1 := b1.bel hb4
  have c2 := b2.bel hb4
  have c3 := b3.bel hb4
  have c4 := b4.bel hb4
  have hb4' := kcall hb3' hb4
  have hz4 := hb4.size
  have hpn := places_few (W := W) (H := H) (w := bw) (h := bh) (show bl.length ≤ 40 by have := G.few; omega)
  clear b0 b1 b2 b3 b4 hb3' hb4 x0 x1 x2 xl hC hk iW iH iw ih
  gi_wp2_with fail
  refine wpIn_rangeG (gf := 83) (lb := #[.pointer (some ⟨p7, 0, none⟩), .pointer (some ⟨p8, 0, none⟩), .pointer (some ⟨w3.heap.size + 1, 0, none⟩), .pointer (some ⟨w3.heap.size + 1 + 2, 0, none⟩), .pointer (some ⟨w3.heap.size + 1 + 1, 0, none⟩)]) rfl (enters_of Try.func83 (by kernel_rfl) rfl) (fun p : Int × Int => #[rcV ⟨p.1, p.2, bw, bh⟩]) hit (Nat.le_refl _) (fun b hb => ⟨hb.2, rfl⟩) (fun _ => rfl)
    (fun k O X => (∀ x, O x → w4.heap.size ≤ x) ∧ w4.heap.size ≤ X.heap.size ∧ Below w.heap.size w X ∧ (∀ x, x < w4.heap.size → x ≠ w3.heap.size → X.heap[x]? = w4.heap[x]?) ∧ k ≤ l.length ∧ provesGo bl bw bh (places W H bl bw bh) l = provesGo bl bw bh ((places W H bl bw bh).drop k) (l.drop k) ∧
      Bx O X w3.heap.size 3 (.int .i64 k))
    (fun c O X => c = .ret ∧ (∀ x, O x → w4.heap.size ≤ x) ∧ w4.heap.size ≤ X.heap.size ∧ R = false ∧ One X (w.heap.size + 2) (.bool false) ∧ One X (w.heap.size + 3) (.int .i64 0) ∧ Below w.heap.size w X)
    ?_ ?_ ?_ ?body ?done ?stop
  · rintro k O O' X X' ⟨h1, h2, h3, h4, h5, h6, h7⟩ st
    exact ⟨O_step st h1 h2, Nat.le_trans h2 st.size, st.below h3 (by omega) (fun b hb => by have := h1 b hb; omega), fun x hx hn => (st.keep x (by omega) (fun ho => by have := h1 x ho; omega)).trans (h4 x hx hn), h5, h6, h7.step st⟩
  · rintro k O O' X X' ⟨h0, h1, h2, h3, h4, h5, h6⟩ st
    exact ⟨h0, O_step st h1 h2, Nat.le_trans h2 st.size, h3, h4.step st (fun ho => by have := h1 _ ho; omega), h5.step st (fun ho => by have := h1 _ ho; omega), st.below h6 (by omega) (fun b hb => by have := h1 b hb; omega)⟩
  · exact ⟨fun b hb => hb.elim, Nat.le_refl _, hb4', fun _ _ _ => rfl, Nat.zero_le _, rfl, Bx.of (by simp) c4.at_⟩
  case body =>
    rintro lp k p O X hx ⟨h1, h2, h3, h4, h5, h6, h7⟩ hO hzX
    have hr := G.at_ (List.mem_of_getElem? hx)
    rw [drop_of_get hx] at h6
    have hkl := lt_of_get hx
    have H1 := hide h1
    have H4 := hide h4
    have H6 := hide h6
    have HO := hide hO
    clear h1 h4 h6 hO hx hit
    simp only [show rcV ⟨p.1, p.2, bw, bh⟩ = Value.agg #[.int .i64 p.1, .int .i64 p.2, .int .i64 bw, .int .i64 bh] from rfl]
    gi_wp2
    refine ⟨(Kept.refl _ _).alloc _, fun W2 st hz2 => ?_⟩
    have hb5 : Below w.heap.size w W2 := st.below (kalloc h3 _) (by have := h3.size; simp; omega) (fun b hb => by have := H1.out b hb; omega)
    have nb : Blk W2 X.heap.size 90 #[.int .i64 p.1, .int .i64 p.2, .int .i64 bw, .int .i64 bh] := blk_heap (Blk.new X _ _) (st.keep _ (by simp) (fun ho => by have := HO.out _ ho; omega))
    have hk4 : ∀ x, x < w4.heap.size → x ≠ w3.heap.size → W2.heap[x]? = w4.heap[x]? := fun x hx hn => (st.keep x (by simp; omega) (fun ho => by have := H1.out x ho; omega)).trans ((Below.heap_alloc _ _ _ (by omega)).trans (H4.out x hx hn))
    have d0 := blk_heap c0 (hk4 _ c0.lt (by omega))
    have d1 := blk_heap c1 (hk4 _ c1.lt (by omega))
    have h7 := (h7.alloc (.cells #[.int .i64 p.1, .int .i64 p.2, .int .i64 bw, .int .i64 bh] 90)).step st
    have hSX := hS.bel hb5
    have hLX := hL.bel hb5
    have hs2 : w4.heap.size ≤ W2.heap.size := by rw [hz2]; simp; omega
    have y2 := d0.cell (v := .slice A bl.length c) 2 rfl
    have y3 := d1.cell (v := .slice B l.length d) 0 rfl
    have y4 := h7.cell
    have y4' := h7.frozen
    have n0 := nb.cell (v := .int .i64 p.1) 0 rfl
    have n1 := nb.cell (v := .int .i64 p.2) 1 rfl
    have n2 := nb.cell (v := .int .i64 bw) 2 rfl
    have n3 := nb.cell (v := .int .i64 bh) 3 rfl
    have HB := hide hb5
    have HK4 := hide hk4
    have H7 := hide h7
    -- the way out
    have e2 := blk_heap c2 (hk4 _ c2.lt (by omega))
    have e3 := blk_heap c3 (hk4 _ c3.lt (by omega))
    have hout := hide fun (X2 wf : World) (hk : Below W2.heap.size W2 X2) => ref_out (O := O) (w3s := w3.heap.size + 1) (w4s := w4.heap.size) hk (e2.one.bel hk) (e3.one.bel hk) (by omega) hs2 (by omega) HB.out rfl H1.out (wf := wf)
    have hnext := hide fun (X2 : World) (hk : Below W2.heap.size W2 X2) => H7.out.bel hk
    clear hb5 h3 st hk4 h7 d0 d1
    by_cases hkk : k < l.length
    · obtain ⟨i, b', o', hi, hdi, rfl, hbw', ci⟩ := Sl.ic_at hLX hkk
      rw [hdi, proves_cons] at H6
      have H6 := hide H6.out
      have gk : decide ((l.length : Int) ≤ k) = false := by simp; omega
      have hki : (k : Int) < l.length := by omega
      by_cases hi0 : i < 0
      · have hR := hide (show R = false by rw [hE.out, H6.out]; simp [hitsAt]; omega)
        have gi : decide (i < 0) = true := by simpa using hi0
        clear H6 hSX hLX hdi hi
        have u2 := e2.one.cell
        have u3 := e3.one.cell
        have u2' := e2.one.thaw
        have u3' := e3.one.thaw
        gi_wp2_with fail
        refine wpIn_region_still_tail (ro := some lp) 31 (by kernel_rfl) (by kernel_rfl) ?_
        simp only [List.take_succ_cons, List.take_zero, List.drop_succ_cons, List.drop_zero]
        repeat ((with_reducible refine wpStill_step (fun K hK => ?_)); go_simp; (try go_bits); (with_reducible refine hK _ ?_); clear hK K)
        (with_reducible refine wpStill_nil ?_)
        gi_wp2_with fail
        obtain ⟨wf, hwf⟩ : ∃ wf, (W2.setCell ⟨w.heap.size + 1 + 1, 0, none⟩ (.bool false)).setCell ⟨w.heap.size + 1 + 1 + 1, 0, none⟩ (.int .i64 0) = wf := ⟨_, rfl⟩
        obtain ⟨o1, o2, o3, o4, o5⟩ := hout.out W2 wf (Below.refl _ _) hwf
        rw [hwf]
        exact ⟨o1.drew, rfl, H1.out, o2, hR.out, o3.drew, o4.drew, o5.drew⟩
      · have gi : decide (i < 0) = false := by simpa using hi0
        obtain ⟨m, rfl⟩ : ∃ m : Nat, i = m := ⟨i.toNat, by omega⟩
        by_cases hm : m < bl.length
        · obtain ⟨r, bb, off, hx2, hdr2, rfl, hbw2, r0, r1, r2, r3⟩ := Sl.rc_at hSX hm
          have hrm := List.mem_of_getElem? hx2
          have hrs := G.bls r hrm
          have K := hide (fun w => hits_any ⟨p.1, p.2, bw, bh⟩ r w hr hrs.1 ⟨G.w_.1, G.h_.1⟩ hrs.2)
          have hh : hitsAt bl bw bh p m = hit ⟨p.1, p.2, bw, bh⟩ r := by simp [hitsAt, hx2]
          have H6 := hide H6.out
          rw [hh] at H6
          simp only [rcV] at K
          generalize hit ⟨p.1, p.2, bw, bh⟩ r = hv at K H6
          have gm : decide ((bl.length : Int) ≤ m) = false := by simp; omega
          have hmi : (m : Int) < bl.length := by omega
          clear hSX hLX hdi hi hx2 hdr2 hrm hrs hr hh
          cases hv
          · have hR := hide (show R = false by rw [hE.out, H6.out]; rfl)
            clear H6
            gi_wp2_with fail
            refine wpIn_region_still_tail (ro := some lp) 31 (by kernel_rfl) (by kernel_rfl) ?_
            simp only [List.take_succ_cons, List.take_zero, List.drop_succ_cons, List.drop_zero]
            repeat ((with_reducible refine wpStill_step (fun K hK => ?_)); go_simp; (try go_bits); (with_reducible refine hK _ ?_); clear hK K)
            (with_reducible refine wpStill_nil ?_)
            gi_wp2_with fail
            refine (CallsIn.inRound lp (callsIn_wide.2 (K.out _))).mono ?_
            rintro e W3 ⟨rfl, hb6⟩
            have hb6' : Below W2.heap.size W2 W3 := (Below.refl _ W2).drew.trans hb6
            have u2 := (e2.one.bel hb6').cell
            have u3 := (e3.one.bel hb6').cell
            have u2' := (e2.one.bel hb6').thaw
            have u3' := (e3.one.bel hb6').thaw
            obtain ⟨wf, hwf⟩ : ∃ wf, (W3.setCell ⟨w.heap.size + 1 + 1, 0, none⟩ (.bool false)).setCell ⟨w.heap.size + 1 + 1 + 1, 0, none⟩ (.int .i64 0) = wf := ⟨_, rfl⟩
            obtain ⟨o1, o2, o3, o4, o5⟩ := hout.out W3 wf hb6' hwf
            have Hwf := hide hwf
            clear hwf y2 y3 y4 y4' n0 n1 n2 n3 r0 r1 r2 r3 ci hb6 hb6'
            gi_wp2_with fail
            rw [Hwf.out]
            exact ⟨o1, rfl, H1.out, o2, hR.out, o3, o4, o5⟩
          · have H6' := hide (show provesGo bl bw bh (places W H bl bw bh) l = provesGo bl bw bh ((places W H bl bw bh).drop (k + 1)) (l.drop (k + 1)) by rw [H6.out, Bool.true_and])
            clear H6
            gi_wp2_with fail
            refine wpIn_region_still_tail (ro := some lp) 31 (by kernel_rfl) (by kernel_rfl) ?_
            simp only [List.take_succ_cons, List.take_zero, List.drop_succ_cons, List.drop_zero]
            repeat ((with_reducible refine wpStill_step (fun K hK => ?_)); go_simp; (try go_bits); (with_reducible refine hK _ ?_); clear hK K)
            (with_reducible refine wpStill_nil ?_)
            gi_wp2_with fail
            refine (CallsIn.inRound lp (callsIn_wide.2 (K.out _))).mono ?_
            rintro e W3 ⟨rfl, hb6⟩
            have hb6' : Below W2.heap.size W2 W3 := (Below.refl _ W2).drew.trans hb6
            have hs6 := hb6'.size
            have G7 := hide (hnext.out W3 hb6')
            have v4 := G7.out.cell
            have v4' := G7.out.frozen
            have MK := hide (Kept.of_below (R := fun x => O x ∨ (w3.heap.size + 1 ≤ x ∧ x < w4.heap.size)) hb6')
            have MB := hide (HB.out.trans (hb6'.mono HB.out.size))
            have MKB := hide fun x (hx : x < w4.heap.size) hn => (hb6'.block x (show x < W2.heap.size by omega)).trans (HK4.out x hx hn)
            clear y2 y3 y4 y4' n0 n1 n2 n3 r0 r1 r2 r3 ci hb6 hb6' hout hnext e2 e3
            gi_wp2_with fail
            refine ⟨MK.out.setCell _ (by rintro (h | h); exact G7.out.no h; dsimp only at h; omega), H1.out, by simp [World.setCell]; omega, MB.out.setCell (by dsimp only; omega) _, fun x hx hn => (Below.heap_setCell _ _ _ _ (by dsimp only; omega)).trans (MKB.out x hx hn), by omega, H6'.out, ?_⟩
            have := G7.out.set (.int .i64 ((k : Int) + 1))
            simpa using this
        · have hR := hide (show R = false by rw [hE.out, H6.out]; simp [hitsAt, List.getElem?_eq_none (show bl.length ≤ m by omega)])
          have gm : decide ((bl.length : Int) ≤ m) = true := by simp; omega
          clear H6 hSX hLX hdi hi
          have u2 := e2.one.cell
          have u3 := e3.one.cell
          have u2' := e2.one.thaw
          have u3' := e3.one.thaw
          gi_wp2_with fail
          refine wpIn_region_still_tail (ro := some lp) 31 (by kernel_rfl) (by kernel_rfl) ?_
          simp only [List.take_succ_cons, List.take_zero, List.drop_succ_cons, List.drop_zero]
          repeat ((with_reducible refine wpStill_step (fun K hK => ?_)); go_simp; (try go_bits); (with_reducible refine hK _ ?_); clear hK K)
          (with_reducible refine wpStill_nil ?_)
          gi_wp2_with fail
          obtain ⟨wf, hwf⟩ : ∃ wf, (W2.setCell ⟨w.heap.size + 1 + 1, 0, none⟩ (.bool false)).setCell ⟨w.heap.size + 1 + 1 + 1, 0, none⟩ (.int .i64 0) = wf := ⟨_, rfl⟩
          obtain ⟨o1, o2, o3, o4, o5⟩ := hout.out W2 wf (Below.refl _ _) hwf
          rw [hwf]
          exact ⟨o1.drew, rfl, H1.out, o2, hR.out, o3.drew, o4.drew, o5.drew⟩
    · have hle : l.length ≤ k := by omega
      rw [List.drop_of_length_le hle, proves_short] at H6
      have hR := hide (hE.out.trans H6.out)
      have gk : decide ((l.length : Int) ≤ k) = true := by simp; omega
      clear H6 hSX hLX
      have u2 := e2.one.cell
      have u3 := e3.one.cell
      have u2' := e2.one.thaw
      have u3' := e3.one.thaw
      gi_wp2_with fail
      refine wpIn_region_still_tail (ro := some lp) 31 (by kernel_rfl) (by kernel_rfl) ?_
      simp only [List.take_succ_cons, List.take_zero, List.drop_succ_cons, List.drop_zero]
      repeat ((with_reducible refine wpStill_step (fun K hK => ?_)); go_simp; (try go_bits); (with_reducible refine hK _ ?_); clear hK K)
      (with_reducible refine wpStill_nil ?_)
      gi_wp2_with fail
      obtain ⟨wf, hwf⟩ : ∃ wf, (W2.setCell ⟨w.heap.size + 1 + 1, 0, none⟩ (.bool false)).setCell ⟨w.heap.size + 1 + 1 + 1, 0, none⟩ (.int .i64 0) = wf := ⟨_, rfl⟩
      obtain ⟨o1, o2, o3, o4, o5⟩ := hout.out W2 wf (Below.refl _ _) hwf
      rw [hwf]
      exact ⟨o1.drew, rfl, H1.out, o2, hR.out, o3.drew, o4.drew, o5.drew⟩
  case done =>
    rintro O X ⟨h1, h2, h3, h4, h5, h6, h7⟩ hO hD hOD hz
    rw [List.drop_length, proves_end] at h6
    have d1 := blk_heap c1 (h4 _ c1.lt (by omega))
    have e2 := blk_heap c2 (h4 _ c2.lt (by omega))
    have e3 := blk_heap c3 (h4 _ c3.lt (by omega))
    have y3 := d1.cell (v := .slice B l.length d) 0 rfl
    have y4 := h7.cell
    have u2 := e2.one.cell
    have u3 := e3.one.cell
    have u2' := e2.one.thaw
    have u3' := e3.one.thaw
    have hR : R = (((places W H bl bw bh).length : Int) == (l.length : Int)) := by
      rw [hE.out, h6, Bool.eq_iff_iff]
      simp
      omega
    have HR := hide hR
    clear h6 hR hit
    gi_wp2_with fail
    obtain ⟨wf, hwf, q1, q2, q3, q4, q5⟩ := two e2.one e3.one (.bool (((places W H bl bw bh).length : Int) == (l.length : Int))) (.int .i64 0) (b1 := w.heap.size + 1 + 1) (b2 := w.heap.size + 1 + 1 + 1) rfl rfl
    rw [hwf]
    have p2 := (q1.put (D := w4.heap.size) (.deferred none) (by omega)).cell
    have p3 := (q2.put (D := w4.heap.size) (.deferred none) (by omega)).cell
    have hB := q3 _ _ (by omega) h3
    have hD' := (q4 w4.heap.size (by omega)).trans hD
    rw [HR.out]
    clear hwf u2 u3 u2' u3' y3 y4
    exact leaves_mark1 (v := .tuple #[.bool _, .int .i64 0]) hD' (by simp [results, Try.results35, go_sem, p2, p3]) ⟨rfl, below_put hB _ (by omega)⟩
  case stop =>
    rintro cc O X ⟨rfl, h1, h2, h3, h4, h5, h6⟩ hO hD hOD hz
    gi_wp2_with fail
    have p2 := (h4.put (D := w4.heap.size) (.deferred none) (by omega)).cell
    have p3 := (h5.put (D := w4.heap.size) (.deferred none) (by omega)).cell
    rw [h3]
    exact leaves_mark1 (v := .tuple #[.bool false, .int .i64 0]) hD (by simp [results, Try.results35, go_sem, p2, p3]) ⟨rfl, below_put h6 _ (by omega)⟩
end Go.Proofs.Ytchdoamoeccjkaa

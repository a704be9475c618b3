/-
  regions.Deny.
-/
import Derived.Test.YtchdoamoeccjkaaRPlace
import Derived.Test.YtchdoamoeccjkaaPushIn
namespace Go.Proofs.Ytchdoamoeccjkaa
open Go.RowKit Go.Shelf Go.Mine Go.Mine.R
attribute [local go_sem] Oper.semAt_some

/-- which regions deny the places -/
def hitsL (bl : List Rc) (bw bh : Int) (ps : List (Int × Int)) : List Int := ps.map fun p => hitAt bl ⟨p.1, p.2, bw, bh⟩ 0
def denied (W H : Int) (bl : List Rc) (w h : Int) : Bool := (place W H bl w h).isNone
def denyL (W H : Int) (bl : List Rc) (w h : Int) : List Int := if chkA W H bl w h = 0 ∧ denied W H bl w h = true then hitsL bl w h (places W H bl w h) else []
def denyB (W H : Int) (bl : List Rc) (w h : Int) : Bool := decide (chkA W H bl w h = 0) && denied W H bl w h
theorem Try_info3 : (Try.prog.info? 3).map (fun i => (i.zero, i.size, i.bytes)) = some (some (.int .i64 0), 1, 8) := by kernel_rfl
theorem hitsL_snoc (bl : List Rc) (bw bh : Int) (ps : List (Int × Int)) (p : Int × Int) : hitsL bl bw bh (ps ++ [p]) = hitsL bl bw bh ps ++ [hitAt bl ⟨p.1, p.2, bw, bh⟩ 0] := by simp [hitsL]
set_option maxRecDepth 100000 in
set_option maxHeartbeats 2000000 in
theorem deny33_bad (W H : Int) (A : Option Addr) (c : Nat) (bl : List Rc) (bw bh : Int) (w : World) (hS : Sl rcC 4 w A c bl) (hI : ∀ r ∈ bl, I64R r) (hne : chkA W H bl bw bh ≠ 0) :
    Calls Try.prog 33 #[scV W H A bl.length c, .int .i64 bw, .int .i64 bh] w fun e w' => e = .returned (.tuple #[.slice none 0 0, .bool false, .int .i64 (chkA W H bl bw bh)]) ∧ Below w.heap.size w w' := by
  have K := hide (fun w (hS : Sl rcC 4 w A c bl) => check59_any W H A c bl bw bh w hS hI)
  simp only [scV] at K ⊢
  generalize chkA W H bl bw bh = s at *
  have hn : (s != 0) = true := by simpa using hne
  go_enter Try.func33, Try.ntmps33
  go_wp2_with fail
  refine (K.out _ ((((hS.alloc _).alloc _).alloc _).alloc _)).mono ?_
  rintro e w1 ⟨rfl, hb1⟩
  have hq := kcall (kalloc (kalloc (kalloc (kalloc (Below.refl _ w) _) _) _) _) hb1
  have o1 := ((((Blk.new1 w _ (#[.slice none 0 0] : Array Value) 33).alloc _).alloc _).bel hb1).one
  have o2 := (((Blk.new2 w _ _ (#[.bool false] : Array Value) 4).alloc _).bel hb1).one
  have o3 := ((Blk.new3 w _ _ _ (#[.int .i64 0] : Array Value) 25).bel hb1).one
  have k1 := o1.cell
  have k2 := o2.cell
  have k3 := o3.cell
  have f1 := o1.thaw
  have f2 := o2.thaw
  have f3 := o3.thaw
  clear K hS hb1
  go_wp2
  obtain ⟨wf, hwf, q1, q2, q3, q5, _, _⟩ := three o1 o2 o3 (.slice none 0 0) (.bool false) (.int .i64 s) (b1 := w.heap.size + 1 + 1) (b2 := w.heap.size + 1 + 1 + 1) rfl rfl
  rw [hwf]
  have p1 := q1.cell
  have p2 := q2.cell
  have p3 := q3.cell
  have hB := q5 _ _ (by omega) hq
  clear hwf k1 k2 k3 f1 f2 f3 o1 o2 o3 hq
  exact bodyPost_ret (v := .tuple #[.slice none 0 0, .bool false, .int .i64 s]) (by simp [results, Try.results33, go_sem, p1, p2, p3]) rfl ⟨rfl, hB⟩
set_option maxRecDepth 100000 in
set_option maxHeartbeats 4000000 in
theorem deny33_good (W H : Int) (A : Option Addr) (c : Nat) (bl : List Rc) (bw bh : Int) (w : World) (hS : Sl rcC 4 w A c bl) (hI : ∀ r ∈ bl, I64R r) (hz : chkA W H bl bw bh = 0) :
    Calls Try.prog 33 #[scV W H A bl.length c, .int .i64 bw, .int .i64 bh] w fun e w' => ∃ v, e = .returned (.tuple #[v, .bool (denyB W H bl bw bh), .int .i64 0]) ∧ OwnL ic 1 3 w' w.heap.size v (denyL W H bl bw bh) ∧ Below w.heap.size w w' := by
  have G := chkA_zero hz
  obtain ⟨iW, iH, iw, ih⟩ := G.i14
  obtain ⟨i0, hi, hi0, hi1, hi2⟩ := info_parts Try_info3
  have HI := hide hi
  clear hi
  have hE := hide (show denyB W H bl bw bh = denied W H bl bw bh by unfold denyB; rw [decide_eq_true hz, Bool.true_and])
  have hE2 := hide (show denyL W H bl bw bh = if denied W H bl bw bh = true then hitsL bl bw bh (places W H bl bw bh) else [] by unfold denyL; simp [hz])
  have K := hide (fun w (hS : Sl rcC 4 w A c bl) => check59_any W H A c bl bw bh w hS hI)
  rw [hz] at K
  simp only [scV] at K ⊢
  generalize denyB W H bl bw bh = R at hE ⊢
  generalize denyL W H bl bw bh = L at hE2 ⊢
  refine (callsIn_wide (n := 9)).1 (callsIn_of_wp_marks Try.func33 rfl trivial ?_ rfl)
  simp only [Try.ntmps33]
  simp only [List.size_toArray, List.length_cons, List.length_nil, Nat.reduceAdd, Nat.reduceSub, Array.replicate_succ, Array.replicate_zero, List.push_toArray, List.append_toArray, List.nil_append, List.cons_append]
  gi_wp2_with fail
  obtain ⟨w2, hw2⟩ : ∃ w2, ((((w.alloc (.cells #[.int .i64 W, .int .i64 H, .slice A bl.length c] 45)).alloc (.cells #[.slice none 0 0] 33)).alloc (.cells #[.bool false] 4)).alloc (.cells #[.int .i64 0] 25)) = w2 := ⟨_, rfl⟩
  have a0 : Blk w2 w.heap.size 45 (scC W H A bl.length c) := by rw [← hw2]; exact (((Blk.new w _ _).alloc _).alloc _).alloc _
  have a1 : Blk w2 (w.heap.size + 1) 33 #[.slice none 0 0] := by rw [← hw2]; exact ((Blk.new1 w _ _ _).alloc _).alloc _
  have a2 : Blk w2 (w.heap.size + 2) 4 #[.bool false] := by rw [← hw2]; exact (Blk.new2 w _ _ _ _).alloc _
  have a3 : Blk w2 (w.heap.size + 3) 25 #[.int .i64 0] := by rw [← hw2]; exact Blk.new3 w _ _ _ _ _
  have hb2 : Below w.heap.size w w2 := by rw [← hw2]; exact kalloc (kalloc (kalloc (kalloc (Below.refl _ _) _) _) _) _
  rw [hw2]
  clear hw2
  refine (callsIn_wide.2 (K.out w2 (hS.bel hb2))).mono ?_
  rintro e w3 ⟨rfl, hb3⟩
  have b0 := a0.bel hb3
  have b1 := a1.bel hb3
  have b2 := a2.bel hb3
  have b3 := a3.bel hb3
  have hb3' := kcall hb2 hb3
  have y0 := b0.cell (v := .int .i64 W) 0 rfl
  have y1 := b0.cell (v := .int .i64 H) 1 rfl
  have y2 := b0.cell (v := .slice A bl.length c) 2 rfl
  clear K a0 a1 a2 a3 hb2 hb3
  gi_wp2_with fail
  refine (callsIn_wide.2 (crit60_any W H A c bl bw bh w3 (hS.bel hb3') G.rcs iH ih (by have := G.few; omega))).mono ?_
  rintro e w4 ⟨p7, p8, mr, mc, kk, rfl, hC, hk, hb4⟩
  have hit := crit83_iter w4 W H A bl.length c bw bh bl w3.heap.size p7 p8 mr mc kk hC hk iW iH iw ih G.rcx
  have c0 := b0.bel hb4
  have c1 := b1.bel hb4
  have c2 := b2.bel hb4
  have c3 := b3.bel hb4
  have hb4' := kcall hb3' hb4
  have hz4 := hb4.size
  have hz3 := b3.lt
  have hpn := places_few (W := W) (H := H) (w := bw) (h := bh) (show bl.length ≤ 40 by have := G.few; omega)
  clear b0 b1 b2 b3 hb3' hb4 y0 y1 y2 hC hk iW iH iw ih
  gi_wp2_with fail
  refine wpIn_rangeG (gf := 83) (lb := #[.pointer (some ⟨p7, 0, none⟩), .pointer (some ⟨p8, 0, none⟩), .pointer (some ⟨w3.heap.size, 0, none⟩), .pointer (some ⟨w3.heap.size + 2, 0, none⟩), .pointer (some ⟨w3.heap.size + 1, 0, none⟩)]) rfl (enters_of Try.func83 (by kernel_rfl) rfl) (fun p : Int × Int => #[rcV ⟨p.1, p.2, bw, bh⟩]) hit (Nat.le_refl _) (fun b hb => ⟨hb.2, rfl⟩) (fun _ => rfl)
    (fun k O X => (∀ x, O x → w4.heap.size ≤ x) ∧ w4.heap.size ≤ X.heap.size ∧ Below w.heap.size w X ∧ (∀ x, x < w4.heap.size → x ≠ w.heap.size + 1 → X.heap[x]? = w4.heap[x]?) ∧ ((places W H bl bw bh).drop k).find? (fun p => free bl bw bh p.1 p.2) = place W H bl bw bh ∧
      ∃ v, Bx O X (w.heap.size + 1) 33 v ∧ OwnO ic 1 3 O X w4.heap.size v (hitsL bl bw bh ((places W H bl bw bh).take k)))
    (fun c O X => c = .ret ∧ (∀ x, O x → w4.heap.size ≤ x) ∧ w4.heap.size ≤ X.heap.size ∧ denied W H bl bw bh = false ∧ One X (w.heap.size + 1) (.slice none 0 0) ∧ One X (w.heap.size + 2) (.bool false) ∧ One X (w.heap.size + 3) (.int .i64 0) ∧ Below w.heap.size w X)
    ?_ ?_ ?_ ?body ?done ?stop
  · rintro k O O' X X' ⟨h1, h2, h3, h4, h5, v, h6, h7⟩ st
    exact ⟨O_step st h1 h2, Nat.le_trans h2 st.size, st.below h3 (by omega) (fun b hb => by have := h1 b hb; omega), fun x hx hn => (st.keep x (by omega) (fun ho => by have := h1 x ho; omega)).trans (h4 x hx hn), h5, v, h6.step st, h7.step st⟩
  · rintro k O O' X X' ⟨h0, h1, h2, h3, h4, h5, h6, h7⟩ st
    exact ⟨h0, O_step st h1 h2, Nat.le_trans h2 st.size, h3, h4.step st (fun ho => by have := h1 _ ho; omega), h5.step st (fun ho => by have := h1 _ ho; omega), h6.step st (fun ho => by have := h1 _ ho; omega), st.below h7 (by omega) (fun b hb => by have := h1 b hb; omega)⟩
  · exact ⟨fun b hb => hb.elim, Nat.le_refl _, hb4', fun _ _ _ => rfl, place_find W H bl bw bh, _, Bx.of (by simp) c1.at_, ⟨OwnL.nil _ _ _ _ _, by simp [Value.ownBlock]⟩⟩
  case body =>
    rintro lp k p O X hx ⟨h1, h2, h3, h4, h5, v, h6, h7⟩ hO hzX
    obtain ⟨A2, cp2, rfl, -⟩ := h7.own.sl
    have hkl := lt_of_get hx
    have hlen : (hitsL bl bw bh ((places W H bl bw bh).take k)).length = k := by simp [hitsL]; omega
    rw [hlen] at h6 h7
    have hr := G.at_ (List.mem_of_getElem? hx)
    have hsn := hide (show hitsL bl bw bh ((places W H bl bw bh).take (k + 1)) = hitsL bl bw bh ((places W H bl bw bh).take k) ++ [hitAt bl ⟨p.1, p.2, bw, bh⟩ 0] by rw [take_of_get hx, hitsL_snoc])
    rw [drop_of_get hx, List.find?_cons] at h5
    have H1 := hide h1
    have H4 := hide h4
    have H5 := hide h5
    have HO := hide hO
    clear h1 h4 h5 hO hx hit
    simp only [show rcV ⟨p.1, p.2, bw, bh⟩ = Value.agg #[.int .i64 p.1, .int .i64 p.2, .int .i64 bw, .int .i64 bh] from rfl]
    gi_wp2
    refine ⟨(Kept.refl _ _).alloc _, fun W2 st hz2 => ?_⟩
    have hb5 : Below w.heap.size w W2 := st.below (kalloc h3 _) (by have := h3.size; simp; omega) (fun b hb => by have := H1.out b hb; omega)
    have nb : Blk W2 X.heap.size 90 #[.int .i64 p.1, .int .i64 p.2, .int .i64 bw, .int .i64 bh] := blk_heap (Blk.new X _ _) (st.keep _ (by simp) (fun ho => by have := HO.out _ ho; omega))
    have hk4 : ∀ x, x < w4.heap.size → x ≠ w.heap.size + 1 → W2.heap[x]? = w4.heap[x]? := fun x hx hn => (st.keep x (by simp; omega) (fun ho => by have := H1.out x ho; omega)).trans ((Below.heap_alloc _ _ _ (by omega)).trans (H4.out x hx hn))
    have d0 := blk_heap c0 (hk4 _ c0.lt (by omega))
    have h6 := (h6.alloc (.cells #[.int .i64 p.1, .int .i64 p.2, .int .i64 bw, .int .i64 bh] 90)).step st
    have h7 : OwnO ic 1 3 O W2 w4.heap.size (.slice A2 k cp2) (hitsL bl bw bh ((places W H bl bw bh).take k)) := OwnO.step ⟨h7.own.alloc _, h7.no⟩ st
    have hSX := hS.bel hb5
    have K := hide (index69_any A c bl ⟨p.1, p.2, bw, bh⟩ W2 hSX G.bls hr ⟨G.w_.1, G.h_.1⟩)
    have hneg := hitAt_neg bl ⟨p.1, p.2, bw, bh⟩ 0
    have hok := hitAt_ok bl ⟨p.1, p.2, bw, bh⟩ 0
    have y2 := d0.cell (v := .slice A bl.length c) 2 rfl
    have n0 := nb.cell (v := .int .i64 p.1) 0 rfl
    have n1 := nb.cell (v := .int .i64 p.2) 1 rfl
    have n2 := nb.cell (v := .int .i64 bw) 2 rfl
    have n3 := nb.cell (v := .int .i64 bh) 3 rfl
    have HB := hide hb5
    have HK4 := hide hk4
    have H6 := hide h6
    have H7 := hide h7
    have hOz : ∀ b, O b → b < W2.heap.size := fun b hb => by have := HO.out b hb; have := hz2; simp at this; omega
    have hs2 : w4.heap.size ≤ W2.heap.size := by rw [hz2]; simp; omega
    simp only [show rcV ⟨p.1, p.2, bw, bh⟩ = Value.agg #[.int .i64 p.1, .int .i64 p.2, .int .i64 bw, .int .i64 bh] from rfl] at K
    clear hb5 h3 hr st hSX hk4 h6 h7
    gi_wp2_with fail
    refine (CallsIn.inRound lp (callsIn_wide.2 K.out)).mono ?_
    rintro e W3 ⟨rfl, hb6⟩
    generalize hitAt bl ⟨p.1, p.2, bw, bh⟩ 0 = hv at *
    have HB6 := hide hb6
    have hb7 := hide (HB.out.trans (hb6.mono HB.out.size))
    have HK5 := hide fun x hx hn => (hb6.block x (show x < W2.heap.size by omega)).trans (HK4.out x hx hn)
    have G6 := hide (H6.out.bel hb6)
    have hs3 := hb6.size
    have G7 := hide (show OwnO ic 1 3 O W3 w4.heap.size (.slice A2 k cp2) (hitsL bl bw bh ((places W H bl bw bh).take k)) from ⟨H7.out.own.bel hb6, H7.out.no⟩)
    clear hb6 y2 n0 n1 n2 n3 K d0 nb H6 H7 HK4 H4
    by_cases hvn : hv < 0
    · have hf : free bl bw bh p.1 p.2 = true := by rw [← hneg]; simpa using hvn
      have hd : denied W H bl bw bh = false := by unfold denied; rw [← H5.out, hf]; rfl
      have hd := hide hd
      have q1 := G6.out.cell
      have q2 := G6.out.frozen
      have e2 := blk_heap c2 (HK5.out _ c2.lt (by omega))
      have e3 := blk_heap c3 (HK5.out _ c3.lt (by omega))
      have r2 := e2.cell (v := .bool false) 0 rfl
      have r3 := e3.cell (v := .int .i64 0) 0 rfl
      have r2' := e2.thaw 0
      have r3' := e3.thaw 0
      obtain ⟨wf, hwf, s1, s2, s3, s5, s6, s7⟩ := three G6.out.one e2.one e3.one (.slice none 0 0) (.bool false) (.int .i64 0) (b1 := w.heap.size + 1 + 1) (b2 := w.heap.size + 1 + 1 + 1) rfl rfl
      have hlo : w.heap.size + 3 < w4.heap.size := by omega
      have hBf := s5 _ _ (by omega) hb7.out
      have hKf : Kept (fun x => O x ∨ (w3.heap.size ≤ x ∧ x < w4.heap.size)) W2 wf := (Kept.of_below HB6.out).trans ⟨by rw [← hwf]; rfl, by rw [← hwf]; rfl, by rw [← hwf]; rfl, by rw [s7]; exact Nat.le_refl _, fun x hx hr => by
        refine s6 x (.inr ?_)
        rcases hr with h | h
        · have := H1.out x h; omega
        · omega⟩
      have hz7 : w4.heap.size ≤ wf.heap.size := by omega
      have HR := hide (show denied W H bl bw bh = false ∧ One wf (w.heap.size + 1) (.slice none 0 0) ∧ One wf (w.heap.size + 2) (.bool false) ∧ One wf (w.heap.size + 3) (.int .i64 0) ∧ Below w.heap.size w wf from ⟨hd.out, s1, s2, s3, hBf⟩)
      have HKf := hide hKf
      have Hwf := hide hwf
      clear hneg hKf hBf s1 s2 s3 s5 s6 s7 hwf
      gi_wp2_with fail
      rw [Hwf.out]
      exact ⟨HKf.out, rfl, H1.out, hz7, HR.out⟩
    · have hf : free bl bw bh p.1 p.2 = false := by rw [← hneg]; simpa using hvn
      have H5' := hide (show ((places W H bl bw bh).drop (k + 1)).find? (fun p => free bl bw bh p.1 p.2) = place W H bl bw bh by rw [← H5.out, hf])
      have q1 := G6.out.cell
      have q2 := G6.out.frozen
      have hlo : w.heap.size + 3 < w4.heap.size := by omega
      clear hneg hf
      gi_wp2_with (gi_at_builtin; refine wpListIn_append rfl (.tmp 31) (.tmp 33) 33 rfl rfl rfl (run_extend (f := ic) (base := w4.heap.size) (l1 := hitsL bl bw bh ((places W H bl bw bh).take k)) (l2 := [hv]) Try.underlying33 HI.out hi0 hi1 hi2 rfl (by decide) (G7.out.own.alloc _) (Sl.one (Blk.new _ _ _) rfl rfl (by decide) (by decide)) ?_ ?_ ?_ ?_) ?_)
      · intro x hx y hy
        simp [ic] at hy; subst hy; rfl
      · simp [maxLen]; omega
      · simp; omega
      · simp; omega
      · intro v' w6 gO gG gB
        have hg : ∀ g, (Value.slice A2 k cp2).ownBlock = some g → w4.heap.size ≤ g := fun g hg => (G7.out.own.blk hg).1
        have hno : ∀ g, (Value.slice A2 k cp2).ownBlock = some g → ¬ O g := fun g hg => G7.out.no g hg
        have hxl := (G7.out.own.alloc (.cells #[.int .i64 hv] 3))
        obtain ⟨A3, cp3, hv', -⟩ := OwnL.sl gO
        simp only [List.length_append, hlen, List.length_cons, List.length_nil, Nat.zero_add] at hv'
        subst hv'
        have m7 : OwnO ic 1 3 O w6 w4.heap.size _ _ := OwnO.new (w := W3.alloc (Obj.cells #[.int .i64 hv] 3)) (v := .slice A2 k cp2) (l := hitsL bl bw bh ((places W H bl bw bh).take k)) ⟨hxl, hno⟩ gO (fun g h => by have := gB g h; simpa using this) (fun x hx => by have := hOz x hx; simp; omega)
        have m6 := (G6.out.alloc (Obj.cells #[.int .i64 hv] 3)).grown gG (fun e => by have := hg _ e.symm; omega)
        have mB := (kcall HB.out HB6.out).alloc (by have := hb7.out.size; omega) (Obj.cells #[.int .i64 hv] 3) |>.grown gG (by have := hb7.out.size; simp; omega) (fun g h => by have := hg g h; omega)
        have mK := ((Kept.of_below HB6.out (R := fun x => O x ∨ (w3.heap.size ≤ x ∧ x < w4.heap.size))).alloc (Obj.cells #[.int .i64 hv] 3)).grown gG (fun g h => by
          have h5 := hg g h
          rintro (h' | h')
          · exact hno g h h'
          · omega)
        have mk : ∀ x, x < w4.heap.size → x ≠ w.heap.size + 1 → w6.heap[x]? = w4.heap[x]? := fun x hx hn => (gG.block x (by simp; omega) (fun e => by have := hg _ e.symm; omega)).trans ((Below.heap_alloc _ _ _ (by omega)).trans (HK5.out x hx hn))
        have hs6 := gG.size
        rw [World.size_alloc] at hs6
        have d4' := m6.cell
        have e4' := m6.frozen
        rw [← hsn.out] at m7
        have M7 := hide m7
        have M6 := hide m6
        have MB := hide mB
        have MK := hide mK
        have Mk := hide mk
        clear gO gG gB q1 q2 hg hno hxl m7 m6 mB mK mk
        gi_wp2
        refine ⟨MK.out.setCell _ (by rintro (h | h); exact M6.out.no h; dsimp only at h; omega), H1.out, by simp [World.setCell]; omega, MB.out.setCell (by dsimp only; omega) _, fun x hx hn => (Below.heap_setCell _ _ _ _ (by dsimp only; omega)).trans (Mk.out x hx hn), H5'.out, _, M6.out.set _, ?_⟩
        exact ⟨M7.out.own.keep (fun g hg => Below.heap_setCell _ _ _ _ (by dsimp only; have := (M7.out.own.blk hg).1; omega)), M7.out.no⟩
  case done =>
    rintro O X ⟨h1, h2, h3, h4, h5, v, h6, h7⟩ hO hD hOD hz
    obtain ⟨A2, cp2, rfl, -⟩ := h7.own.sl
    rw [List.drop_length] at h5
    have hd : denied W H bl bw bh = true := by unfold denied; rw [← h5]; rfl
    rw [List.take_length] at h7 h6
    have e2 := blk_heap c2 (h4 _ c2.lt (by omega))
    have e3 := blk_heap c3 (h4 _ c3.lt (by omega))
    have r1 := h6.cell
    have r1' := h6.frozen
    have r2 := e2.cell (v := .bool false) 0 rfl
    have r3 := e3.cell (v := .int .i64 0) 0 rfl
    have r2' := e2.thaw 0
    have r3' := e3.thaw 0
    have hR : R = true := by rw [hE.out, hd]
    have hL : L = hitsL bl bw bh (places W H bl bw bh) := by rw [hE2.out, hd]; rfl
    gi_wp2_with fail
    obtain ⟨wf, hwf, s1, s2, s3, s5, s6, s7⟩ := three h6.one e2.one e3.one (.slice A2 (hitsL bl bw bh (places W H bl bw bh)).length cp2) (.bool true) (.int .i64 0) (b1 := w.heap.size + 1 + 1) (b2 := w.heap.size + 1 + 1 + 1) rfl rfl
    rw [hwf]
    have hlo : w.heap.size + 3 < w4.heap.size := by omega
    have p1 := (s1.put (D := w4.heap.size) (.deferred none) (by omega)).cell
    have p2 := (s2.put (D := w4.heap.size) (.deferred none) (by omega)).cell
    have p3 := (s3.put (D := w4.heap.size) (.deferred none) (by omega)).cell
    have hB := s5 _ _ (by omega) h3
    have hD' := (s6 w4.heap.size (by omega)).trans hD
    have hO6 : OwnO ic 1 3 O wf w4.heap.size (.slice A2 (hitsL bl bw bh (places W H bl bw bh)).length cp2) (hitsL bl bw bh (places W H bl bw bh)) := ⟨h7.own.keep (fun g hg => s6 g (by have := (h7.own.blk hg).1; omega)), h7.no⟩
    clear hwf r1 r1' r2 r2' r3 r3'
    rw [hR, hL]
    exact leaves_mark1 (v := .tuple #[_, .bool true, .int .i64 0]) hD' (by simp [results, Try.results33, go_sem, p1, p2, p3]) ⟨_, rfl, (hO6.put _ hOD).own.mono (by omega), below_put hB _ (by omega)⟩
  case stop =>
    rintro cc O X ⟨rfl, h1, h2, h3, h4, h5, h6, h7⟩ hO hD hOD hz
    have hR : R = false := by rw [hE.out, h3]
    have hL : L = [] := by rw [hE2.out, h3]; rfl
    gi_wp2_with fail
    have hlo : w.heap.size + 3 < w4.heap.size := by omega
    have p1 := (h4.put (D := w4.heap.size) (.deferred none) (by omega)).cell
    have p2 := (h5.put (D := w4.heap.size) (.deferred none) (by omega)).cell
    have p3 := (h6.put (D := w4.heap.size) (.deferred none) (by omega)).cell
    rw [hR, hL]
    exact leaves_mark1 (v := .tuple #[.slice none 0 0, .bool false, .int .i64 0]) hD (by simp [results, Try.results33, go_sem, p1, p2, p3]) ⟨_, rfl, OwnL.nil _ _ _ _ _, below_put h7 _ (by omega)⟩
end Go.Proofs.Ytchdoamoeccjkaa

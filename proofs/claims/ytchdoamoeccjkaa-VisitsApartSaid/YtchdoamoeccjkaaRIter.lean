/-
  regions.critical: the iterator yields the critical places.
-/
import Derived.Test.YtchdoamoeccjkaaRCrit
import Derived.Test.YtchdoamoeccjkaaRPlaces
import Derived.Test.YtchdoamoeccjkaaRange2
namespace Go.Proofs.Ytchdoamoeccjkaa
open Go.RowKit Go.Shelf Go.Mine Go.Mine.R
attribute [local go_sem] Oper.semAt_some

theorem roundIn_any {n m l' : Nat} {P : Program} {l : Nat} {f : FuncId} {tmps : Array Value} {assign body : Code} {w : World} {R : Ending → World → Prop} (h : RoundIn Fence.wide n P l f tmps assign body w R) : RoundIn (Fence.wide.inRound l') m P l f tmps assign body w R :=
  ⟨trivial, fun c cs _ => h.2 c cs (room_wide _)⟩
theorem blk_heap {w w' : World} {b : Nat} {ty : TypeId} {cs : Array Value} (h : Blk w b ty cs) (e : w'.heap[b]? = w.heap[b]?) : Blk w' b ty cs :=
  ⟨(Array.getElem?_eq_some_iff.1 (e.trans h.at_)).1, e.trans h.at_⟩
theorem Crit.heap {W H : Int} {A : Option Addr} {n c : Nat} {bw bh : Int} {rk ck : List Int} {b p7 p8 mr mc k : Nat} {w w' : World} (h : Crit W H A n c bw bh rk ck b p7 p8 mr mc k w) (hk : ∀ x, b ≤ x ∧ x < w.heap.size → w'.heap[x]? = w.heap[x]?) : Crit W H A n c bw bh rk ck b p7 p8 mr mc k w' :=
  ⟨blk_heap h.s (hk _ ⟨by omega, h.s.lt⟩), blk_heap h.w_ (hk _ ⟨by omega, h.w_.lt⟩), blk_heap h.h_ (hk _ ⟨by omega, h.h_.lt⟩), blk_heap h.r (hk _ ⟨h.lo.1, h.r.lt⟩), blk_heap h.c_ (hk _ ⟨h.lo.2.1, h.c_.lt⟩),
    h.rows.heap (hk _ ⟨h.lo.2.2.1, h.rows.lt⟩), h.cols.heap (hk _ ⟨h.lo.2.2.2, h.cols.lt⟩), h.lo, h.ne⟩
theorem drop_cons {α : Type} {l : List α} {j : Nat} {s : α} {r : List α} (h : l.drop j = s :: r) : l[j]? = some s ∧ l.drop (j + 1) = r ∧ j < l.length := by
  have h1 : j < l.length := by
    rcases Nat.lt_or_ge j l.length with h' | h'
    · exact h'
    · rw [List.drop_of_length_le h'] at h; cases h
  rw [List.drop_eq_getElem_cons h1] at h
  injection h with e1 e2
  exact ⟨by rw [List.getElem?_eq_getElem h1, e1], e2, h1⟩
set_option maxRecDepth 100000 in
set_option maxHeartbeats 4000000 in
theorem crit83_iter (w1 : World) (W H : Int) (A : Option Addr) (m c : Nat) (bw bh : Int) (bl : List Rc) (b p7 p8 mr mc kk : Nat) (hC : Crit W H A m c bw bh (rowsK H bh bl) (colsK bl) b p7 p8 mr mc kk w1) (hkk : kk ≤ 10000)
    (hW : I14 W) (hH : I14 H) (hw : I14 bw) (hh : I14 bh) (hB : ∀ r ∈ bl, RcS r ∧ 0 ≤ r.x ∧ 0 ≤ r.w) :
    Iter Try.prog 83 #[.pointer (some ⟨p7, 0, none⟩), .pointer (some ⟨p8, 0, none⟩), .pointer (some ⟨b, 0, none⟩), .pointer (some ⟨b + 2, 0, none⟩), .pointer (some ⟨b + 1, 0, none⟩)] ((places W H bl bw bh).map fun p => #[rcV ⟨p.1, p.2, bw, bh⟩]) (fun x => b ≤ x ∧ x < w1.heap.size) w1 := by
  intro n lp J Jx W0 hW0 hR hJ hJx hY h0
  have hC0 : Crit W H A m c bw bh (rowsK H bh bl) (colsK bl) b p7 p8 mr mc kk W0 := hC.heap fun x hx => (hR x hx).2
  have hRb : ∀ x, b ≤ x ∧ x < w1.heap.size → x < W0.heap.size := fun x h => by omega
  refine callsIn_of_wp_marks Try.func83 rfl trivial ?_ rfl
  simp only [Try.ntmps83]
  simp only [List.size_toArray, List.length_cons, List.length_nil, Nat.reduceAdd, Nat.reduceSub, Array.replicate_succ, Array.replicate_zero, List.push_toArray, List.append_toArray, List.nil_append, List.cons_append]
  have x7 := hC0.r.cell (v := .map (some mr)) 0 rfl
  have l7 := hC0.r.lt
  gi_wp2_with fail
  obtain ⟨W1, hW1⟩ : ∃ W1, W0.alloc (.cells #[.func (.yield lp) #[] #[]] 122) = W1 := ⟨_, rfl⟩
  have hb1 : Below W0.heap.size W0 W1 := by rw [← hW1]; exact kalloc (Below.refl _ _) _
  have y1 : Blk W1 W0.heap.size 122 #[.func (.yield lp) #[] #[]] := by rw [← hW1]; exact Blk.new _ _ _
  have z1 : W1.heap.size = W0.heap.size + 1 := by rw [← hW1]; simp
  rw [hW1]
  refine (callsIn_wide.2 (keys86_any (some mr) W1)).mono ?_
  rintro e W2 ⟨rfl, hW2⟩
  have hMr : MapI Try.prog 3 W2 mr kk (setM (rowsK H bh bl)) := by rw [hW2]; exact (hC0.rows.bel hb1).alloc _
  have hB2 : W2.heap[W0.heap.size + 1]? = some (.cells #[.map (some mr)] 121) := by rw [hW2, ← z1]; exact heap_new _ _
  have hb2 : Below W0.heap.size W0 W2 := by rw [hW2]; exact kalloc hb1 _
  have y2 : Blk W2 W0.heap.size 122 #[.func (.yield lp) #[] #[]] := by rw [hW2]; exact y1.alloc _
  clear hW2 x7 hW1 y1 hb1
  gi_wp2_with fail
  refine (callsIn_wide.2 (sorted85_any (W0.heap.size + 1) mr kk _ W2 hMr hB2 (by omega))).mono ?_
  rintro e W3 ⟨v, l, rfl, hl1, hl2, hown, hb3'⟩
  have hb3 := kcall hb2 hb3'
  have y3 := y2.bel hb3'
  obtain ⟨A3, c3, rfl, hS3⟩ := hown.sl
  have hA3 : ∀ x off, A3 = some ⟨x, off, none⟩ → W0.heap.size ≤ x := fun x off e => by
    have := hown.blk (g := x) (by subst e; rfl)
    have := hb2.size
    omega
  clear hown hMr hB2 y2 hb2 hb3'
  gi_wp2_with fail
  refine (callsIn_wide.2 (back84_any _ W3 A3 l.length c3 rfl)).mono ?_
  rintro e W4 ⟨rfl, hW4⟩
  have hb4 : Below W0.heap.size W0 W4 := by rw [hW4]; exact kalloc hb3 _
  have y4 : Blk W4 W0.heap.size 122 #[.func (.yield lp) #[] #[]] := by rw [hW4]; exact y3.alloc _
  have hS4 : Sl ic 1 W4 A3 c3 l := by rw [hW4]; exact hS3.alloc _
  have hB4 : W4.cell? ⟨W3.heap.size, 0, none⟩ = some (.slice A3 l.length c3) := by rw [hW4]; exact (Blk.new W3 #[.slice A3 l.length c3] 33).cell 0 rfl
  have z4 : W3.heap.size < W4.heap.size := by rw [hW4]; simp
  have z3 := hb3.size
  have hit := back105_iter W4 W3.heap.size A3 c3 l hS4 hB4
  have hJ4 := hJ _ _ _ _ _ h0 (IStep.of_below (O := fun _ => False) hb4)
  clear hW4 hb3 y3 hS3
  have hpl := rows_flat (W := W) (w := bw) (h := bh) hl1 (fun k => by rw [hl2, setM_some, rowsK_mem])
  have hR4 : ∀ x, b ≤ x ∧ x < w1.heap.size → W4.heap[x]? = W0.heap[x]? := fun x hx => hb4.block x (hRb x hx)
  rw [← bk_snd, List.flatMap_map] at hpl
  have HY := hide @hY
  have HC := hide hC
  have HR2 := hide fun x hx => (hR x hx).2
  have HB := hide hB
  have HR := hide hRb
  have HA := hide hA3
  clear hY hC hC0 hR hB hA3 hRb
  gi_wp2
  refine wpIn_rangeA (gf := 105) (lb := #[.pointer (some ⟨W3.heap.size, 0, none⟩)]) rfl (enters_of Try.func105 (by kernel_rfl) rfl) (fun p : Int × Int => #[.int .i64 p.1, .int .i64 p.2]) hit (Nat.le_refl _) (fun b hb => ⟨hb.1, rfl⟩) (fun _ => rfl)
    (fun k O X => (∀ x, O x → W4.heap.size ≤ x) ∧ W4.heap.size ≤ X.heap.size ∧ ∃ (j : Nat) (Oo : Nat → Prop), j ≤ (places W H bl bw bh).length ∧ (places W H bl bw bh).drop j = ((bk l).drop k).flatMap (fun p => rowPl W H bl bw bh p.2) ∧ J j Oo X ∧
      (∀ x, O x → Oo x) ∧ (∀ x, W0.heap.size ≤ x → x < W4.heap.size → Oo x) ∧ (∀ x, Oo x → W0.heap.size ≤ x ∧ x < X.heap.size) ∧ (∀ x, b ≤ x ∧ x < w1.heap.size → X.heap[x]? = W0.heap[x]?) ∧ X.heap[W0.heap.size]? = W4.heap[W0.heap.size]?)
    (fun c O X => (∀ x, O x → W4.heap.size ≤ x) ∧ W4.heap.size ≤ X.heap.size ∧ c = .ret ∧ ∃ Oo : Nat → Prop, Jx () Oo X ∧ (∀ x, O x → Oo x) ∧ (∀ x, Oo x → W0.heap.size ≤ x ∧ x < X.heap.size))
    ?_ ?_ ?_ (fun y => { tmps := #[.func (.yield lp) #[] #[], .pointer (some ⟨p7, 0, none⟩), .pointer (some ⟨p8, 0, none⟩), .pointer (some ⟨b, 0, none⟩), .pointer (some ⟨b + 2, 0, none⟩), .pointer (some ⟨b + 1, 0, none⟩), .pointer (some ⟨W0.heap.size, 0, none⟩), undef, .int .i64 y.2, undef, undef, .map (some mr), .func (.func 107) #[] #[.pointer (some ⟨W0.heap.size + 1, 0, none⟩)], .slice A3 l.length c3, .func (.func 105) #[] #[.pointer (some ⟨W3.heap.size, 0, none⟩)], .int .i64 y.1, .int .i64 y.2, undef, undef, undef, undef, undef, undef, undef, undef, undef, undef, undef, undef, undef, undef, undef, undef, undef, undef, undef, undef, undef, undef, undef, undef, undef, undef, undef, undef, undef, undef, undef, undef, undef, undef, undef, undef, undef], defers := [] }) ?assign ?body ?done ?stop
  · rintro k O O' X X' ⟨h1, h2, j, Oo, h3, h4, h5, h6, h7, h8, h9, h10⟩ st
    have hw0 := y4.lt
    refine ⟨O_step st h1 h2, Nat.le_trans h2 st.size, j, fun x => Oo x ∨ (X.heap.size ≤ x ∧ x < X'.heap.size), h3, h4, hJ _ _ _ _ _ h5 ⟨st.os, st.tape, st.output, st.size, fun x hx hn => st.keep x hx (fun ho => hn (h6 x ho)), fun _ => Iff.rfl⟩,
      fun x hx => ?_, fun x g1 g2 => .inl (h7 x g1 g2), fun x hx => ?_, fun x hx => (st.keep x (by have := HR.out x hx; omega) (fun ho => by have := h1 x ho; have := HR.out x hx; omega)).trans (h9 x hx),
      (st.keep _ (by omega) (fun ho => by have := h1 _ ho; omega)).trans h10⟩
    · rcases (st.owns x).1 hx with h | h
      · exact .inl (h6 x h)
      · exact .inr h
    · have := st.size
      rcases hx with h | h
      · have := h8 x h; omega
      · omega
  · rintro c O O' X X' ⟨h1, h2, rfl, Oo, h5, h6, h8⟩ st
    refine ⟨O_step st h1 h2, Nat.le_trans h2 st.size, rfl, fun x => Oo x ∨ (X.heap.size ≤ x ∧ x < X'.heap.size), hJx _ _ _ _ _ h5 ⟨st.os, st.tape, st.output, st.size, fun x hx hn => st.keep x hx (fun ho => hn (h6 x ho)), fun _ => Iff.rfl⟩,
      fun x hx => ?_, fun x hx => ?_⟩
    · rcases (st.owns x).1 hx with h | h
      · exact .inl (h6 x h)
      · exact .inr h
    · have := st.size
      rcases hx with h | h
      · have := h8 x h; omega
      · have := hb4.size; omega
  · refine ⟨fun _ h => h.elim, Nat.le_refl _, 0, _, Nat.zero_le _, by rw [List.drop_zero, List.drop_zero]; exact hpl.symm, hJ4, fun _ h => h.elim, fun x g1 g2 => .inr ⟨g1, g2⟩, fun x hx => ?_, hR4, rfl⟩
    rcases hx with h | h
    · exact h.elim
    · exact h
  case assign =>
    intro lp' y X K hK
    gi_wp2
    exact hK
  case body =>
    rintro lp' k ⟨yi, y⟩ O X hx ⟨h1, h2, j, Oo, h3, h4, h5, h6, h7, h8, h9, h10⟩ hO hz
    have HCX : Hid (Crit W H A m c bw bh (rowsK H bh bl) (colsK bl) b p7 p8 mr mc kk X) := hide (HC.out.heap fun x hx => (h9 x hx).trans (HR2.out x hx))
    rw [drop_of_get hx, List.flatMap_cons] at h4
    have H4 := hide h4
    have x8 := HCX.out.c_.cell (v := .map (some mc)) 0 rfl
    have l8 := HCX.out.c_.lt
    have H1 := hide h1
    have H6 := hide h6
    have H7 := hide h7
    have H8 := hide h8
    have H9 := hide h9
    have H10 := hide h10
    have HO := hide hO
    clear h1 h4 h6 h7 h8 h9 h10 hO hx hpl hR4 hit hJ4
    gi_wp2_with fail
    refine (CallsIn.inRound lp' (callsIn_wide.2 (keys86_any (some mc) X))).mono ?_
    rintro e X1 ⟨rfl, hX1⟩
    have hMc : MapI Try.prog 3 X1 mc kk (setM (colsK bl)) := by rw [hX1]; exact HCX.out.cols.alloc _
    have hBX : X1.heap[X.heap.size]? = some (.cells #[.map (some mc)] 121) := by rw [hX1]; exact heap_new _ _
    have hbX : Below X.heap.size X X1 := by rw [hX1]; exact kalloc (Below.refl _ _) _
    clear hX1 x8
    gi_wp2_with fail
    refine (CallsIn.inRound lp' (callsIn_wide.2 (sorted85_any X.heap.size mc kk _ X1 hMc hBX (by omega)))).mono ?_
    rintro e X2 ⟨v2, C, rfl, hc1, hc2, hownC, hb2'⟩
    have hb2 := kcall hbX hb2'
    obtain ⟨A2, cc, rfl, hSC⟩ := hownC.sl
    have hA2 : ∀ x off, A2 = some ⟨x, off, none⟩ → X.heap.size ≤ x := fun x off e => by
      have := hownC.blk (g := x) (by subst e; rfl)
      have := hbX.size
      omega
    clear hownC hMc hBX hbX hb2'
    gi_wp2_with fail
    have hJX := hJ _ _ _ _ _ h5 (IStep.of_below (O := Oo) hb2)
    have hX2 := hb2.size
    have hrow := rowFrom_all (W := W) (H := H) (w := bw) (h := bh) (y := y) hc1 (fun k => by rw [hc2, setM_some, colsK_mem]) (fun r hr => (HB.out r hr).2)
    rw [hrow] at H4
    have hcl := hSC.le
    have hcm := hSC.max
    have hwb := y4.lt
    have HK := hide fun (Y : World) (hk : Kept (fun x => (b ≤ x ∧ x < w1.heap.size) ∨ (W0.heap.size ≤ x ∧ x < W4.heap.size) ∨ O x ∨ (X.heap.size ≤ x ∧ x < X2.heap.size)) X2 Y) =>
      (Kept.of_below (R := fun x => O x ∨ (x < W4.heap.size ∧ (x = W3.heap.size ∨ ∃ off, A3 = some ⟨x, off, none⟩))) hb2).trans (hk.mono fun x hx => by
        rcases hx with h | ⟨h, h' | ⟨off, h'⟩⟩
        · exact .inr (.inr (.inl h))
        · exact .inr (.inl ⟨by omega, h⟩)
        · exact .inr (.inl ⟨HA.out x off h', h⟩))
    have HF := hide fun (Y : World) (hk : Kept (fun x => (b ≤ x ∧ x < w1.heap.size) ∨ (W0.heap.size ≤ x ∧ x < W4.heap.size) ∨ O x ∨ (X.heap.size ≤ x ∧ x < X2.heap.size)) X2 Y) =>
      (show (∀ x, b ≤ x ∧ x < w1.heap.size → Y.heap[x]? = W0.heap[x]?) ∧ Y.heap[W0.heap.size]? = W4.heap[W0.heap.size]? from
        ⟨fun z hz => by
          have := HR.out z hz
          have h1' : z < X.heap.size := by have := hb4.size; omega
          exact (hk.keep z (by omega) (.inl hz)).trans ((hb2.block z h1').trans (H9.out z hz)),
        (hk.keep _ (by omega) (.inr (.inl ⟨Nat.le_refl _, hwb⟩))).trans ((hb2.block _ (by omega)).trans H10.out)⟩)
    gi_loopw [21] (fun i Y => ∃ (q j : Nat) (Oo : Nat → Prop), i = .int .i64 q ∧ q ≤ C.length ∧ j ≤ (places W H bl bw bh).length ∧ (places W H bl bw bh).drop j = rowFrom W H bw bh y (C.drop q) ++ ((bk l).drop (k + 1)).flatMap (fun p => rowPl W H bl bw bh p.2) ∧ J j Oo Y ∧
      (∀ x, (W0.heap.size ≤ x ∧ x < W4.heap.size) ∨ O x ∨ (X.heap.size ≤ x ∧ x < X2.heap.size) → Oo x) ∧ (∀ x, Oo x → W0.heap.size ≤ x ∧ x < Y.heap.size) ∧
      Kept (fun x => (b ≤ x ∧ x < w1.heap.size) ∨ (W0.heap.size ≤ x ∧ x < W4.heap.size) ∨ O x ∨ (X.heap.size ≤ x ∧ x < X2.heap.size)) X2 Y) (fun i _ => C.length - (nI i).toNat)
    case atStart =>
      refine ⟨0, j, _, rfl, Nat.zero_le _, h3, H4.out, hJX, fun x hx => ?_, fun x hx => ?_, Kept.refl _ _⟩
      · rcases hx with h | h | h
        · exact .inl (H7.out x h.1 h.2)
        · exact .inl (H6.out x h)
        · exact .inr h
      · rcases hx with h | h
        · have := H8.out x h; omega
        · have := hb4.size; omega
    case round =>
      obtain ⟨q, j', Oj, rfl, hq, k1, k2, k3, k4, k5, k6⟩ := hrel
      by_cases hlt : q < C.length
      · obtain ⟨x, bx, off, hx, hdr, rfl, hbx, hcx⟩ := hSC.ic_at hlt
        rw [hdr] at k2
        have hXY : ∀ z, (b ≤ z ∧ z < w1.heap.size) ∨ (W0.heap.size ≤ z ∧ z < W4.heap.size) ∨ O z ∨ (X.heap.size ≤ z ∧ z < X2.heap.size) → z < X2.heap.size → wr.heap[z]? = X2.heap[z]? := fun z hz hl => k6.keep z hl hz
        have cx : wr.cell? ⟨bx, off + q, none⟩ = some (.int .i64 x) := (World.cell?_of_block (a := ⟨bx, off + q, none⟩) (hXY bx (.inr (.inr (.inr ⟨hA2 bx off rfl, hbx⟩))) hbx)).trans hcx
        have HCY : Crit W H A m c bw bh (rowsK H bh bl) (colsK bl) b p7 p8 mr mc kk wr := HC.out.heap fun z hz => by
          have := HR.out z hz
          have h1' : z < X.heap.size := by have := hb4.size; omega
          exact (hXY z (.inl hz) (by omega)).trans ((hb2.block z h1').trans ((H9.out z hz).trans (HR2.out z hz)))
        have s0 := HCY.s.cell (v := .int .i64 W) 0 rfl
        have s1 := HCY.s.cell (v := .int .i64 H) 1 rfl
        have sw := HCY.w_.cell (v := .int .i64 bw) 0 rfl
        have sh := HCY.h_.cell (v := .int .i64 bh) 0 rfl
        have sy : wr.cell? ⟨W0.heap.size, 0, none⟩ = some (.func (.yield lp) #[] #[]) := by
          have e1 := hXY W0.heap.size (.inr (.inl ⟨Nat.le_refl _, hwb⟩)) (by omega)
          have e2 := hb2.block W0.heap.size (by omega)
          have e3 := e1.trans (e2.trans H10.out)
          exact (World.cell?_of_block (a := ⟨W0.heap.size, 0, none⟩) e3).trans (y4.cell 0 rfl)
        have hYs := k6.size
        have hjz : W0.heap.size ≤ wr.heap.size := by have := hb4.size; omega
        have K4 := hide k4
        have K5 := hide k5
        have K6 := hide k6
        clear hdr hcx HCY hXY k4 k5 k6 hx H4 hrow hJX h5 H6 H7 H8 H9 H10 hSC
        unfold I14 at hW hH hw hh
        by_cases g0 : 0 ≤ y ∧ y ≤ H - bh ∧ x ≤ W - bw
        · obtain ⟨g1, g2, g3⟩ := g0
          rw [rowFrom_yes g1 g2 g3, List.cons_append] at k2
          obtain ⟨d1, d2, d3⟩ := drop_cons k2
          obtain ⟨fn, tmps, assign, body, hyy, hRR⟩ := HY.out j' #[rcV ⟨x, y, bw, bh⟩] Oj wr (by rw [List.getElem?_map, d1]; rfl) k3 K5.out hjz
          replace hRR := hide hRR
          have D2 := hide d2
          unfold rcV at hyy
          clear k2 d1 d2 k3
          gi_wp2_with fail
          refine (roundIn_any hRR.out).mono ?_
          rintro e W' ⟨hK, hjj⟩
          have hK' := hide (K6.out.trans (hK.mono fun z hz => by
            rcases hz with h | h
            · exact .inr h
            · exact .inl (K4.out z h)))
          have hsz := hK.size
          clear hK hRR cx s0 s1 sw sh sy hyy
          rcases hjj with ⟨rfl, hj'⟩ | ⟨rfl, hj'⟩
          · gi_wp2
            go_roundw
            case rel => exact ⟨q + 1, j' + 1, Oj, by go_num, by omega, d3, D2.out, hj', K4.out, fun z hz => by have := K5.out z hz; omega, hK'.out⟩
            case measure => simp [nI]; omega
          · have hK1 := HK.out _ hK'.out
            gi_wp2
            exact ⟨hK1, H1.out, by omega, rfl, Oj, hj', fun z hz => K4.out z (.inr (.inl hz)), fun z hz => by have := K5.out z hz; omega⟩
        · rw [rowFrom_no g0] at k2
          have K2 := hide k2
          have g0' : ¬ (0 ≤ y) ∨ (0 ≤ y ∧ ¬ (y ≤ H - bh)) ∨ (0 ≤ y ∧ y ≤ H - bh ∧ ¬ (x ≤ W - bw)) := by omega
          clear k2 g0
          rcases g0' with g1 | ⟨g1, g2⟩ | ⟨g1, g2, g3⟩
          all_goals
            gi_wp2_with fail
            go_roundw
            case rel => exact ⟨q + 1, j', Oj, by go_num, by omega, k1, K2.out, k3, K4.out, K5.out, K6.out⟩
            case measure => simp [nI]; omega
      · obtain rfl : q = C.length := by omega
        rw [List.drop_length, rowFrom_nil, List.nil_append] at k2
        have K2 := hide k2
        have K4 := hide k4
        have K5 := hide k5
        have K6 := hide k6
        clear k2 k4 k5 k6 hSC
        have hK1 := HK.out _ K6.out
        obtain ⟨f1, f2⟩ := HF.out _ K6.out
        have hs6 := K6.out.size
        gi_wp2_with fail
        exact ⟨hK1, H1.out, by omega, j', Oj, k1, K2.out, k3, fun x hx => K4.out x (.inr (.inl hx)), fun x g1 g2 => K4.out x (.inl ⟨g1, g2⟩), K5.out, f1, f2⟩
  case done =>
    rintro O X ⟨h1, h2, j, Oo, h3, h4, h5, h6, h7, h8, h9, h10⟩ hO hD hOD hz
    gi_wp2
    rw [List.drop_length, List.flatMap_nil] at h4
    have hj : j = (places W H bl bw bh).length := by have := congrArg List.length h4; simp at this; omega
    subst hj
    have hJf := hJ _ _ _ _ _ h5 (IStep.putObj (O := Oo) X W4.heap.size (.deferred none) (h6 _ hOD))
    refine leaves_mark1 (v := .tuple #[]) hD (results_none rfl _ _ _) ⟨⟨_, rfl⟩, Oo, fun x hx => by have := h8 x hx; simp; omega, by have := hb4.size; simp; omega, .inl (by rw [List.length_map]; exact hJf)⟩
  case stop =>
    rintro c O X ⟨h1, h2, rfl, Oo, h5, h6, h8⟩ hO hD hOD hz
    gi_wp2
    have hJf := hJx _ _ _ _ _ h5 (IStep.putObj (O := Oo) X W4.heap.size (.deferred none) (h6 _ hOD))
    refine leaves_mark1 (v := .tuple #[]) hD (results_none rfl _ _ _) ⟨⟨_, rfl⟩, Oo, fun x hx => by have := h8 x hx; simp; omega, by have := hb4.size; simp; omega, .inr hJf⟩
end Go.Proofs.Ytchdoamoeccjkaa

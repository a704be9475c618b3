/-
  hansardref13.Borders: where two lists begin and end, in order; add: one more piece.
-/
import Derived.Test.YtbfgbkblblnbhaaSRef3
import Derived.Test.YtbfgbkblblnbhaaSPure4
import Derived.Deep.RegionHeld3
namespace Go.Proofs.Ytbfgbkblblnbhaa
open Go.RowKit Go.Mine Go.Mine.H Go.Mine.S

theorem flt_two (p : Int → Bool) : ∀ l : List Int, (l.filter p).length + (l.filter (fun x => !p x)).length = l.length
  | [] => rfl
  | x :: r => by
    have := flt_two p r
    cases h : p x <;> simp [List.filter_cons, h] <;> omega
theorem placeL_length (l : List Int) (n : Int) : (placeL l n).length ≤ l.length + 1 := by
  unfold placeL
  split
  · omega
  · have := flt_two (fun x => decide (x < n)) l
    simp only [List.length_append, List.length_cons]
    omega
theorem bordL_length : ∀ (l : List Sp) (out : List Int), (bordL out l).length ≤ out.length + 2 * l.length
  | [], out => by simp [bordL]
  | x :: r, out => by
    have h := bordL_length r (placeL (placeL out x.1) x.2)
    have h1 := placeL_length (placeL out x.1) x.2
    have h2 := placeL_length out x.1
    have e : bordL out (x :: r) = bordL (placeL (placeL out x.1) x.2) r := rfl
    rw [e, List.length_cons]
    omega
theorem bordL_take {l : List Sp} {k : Nat} {x : Sp} (out : List Int) (hx : l[k]? = some x) : bordL out (l.take (k + 1)) = placeL (placeL (bordL out (l.take k)) x.1) x.2 := by
  rw [take_of_get hx]; simp [bordL, List.foldl_append]
theorem bordL_tlen (l : List Sp) (out : List Int) (k : Nat) : (bordL out (l.take k)).length ≤ out.length + 2 * l.length := by
  have h := bordL_length (l.take k) out
  have h2 := List.length_take_le' k l
  omega
theorem kc {w w' : World} {p : Addr} {v : Value} (h : Below w.heap.size w w') (hlt : p.block < w.heap.size) (hc : w.cell? p = some v) : w'.cell? p = some v := (h.cell hlt).trans hc

set_option maxHeartbeats 2000000 in
theorem borders_any (A A' : Option Addr) (c c' : Nat) (a b : List Sp) (w : World) (hSa : Sl bc 2 w A c a) (hSb : Sl bc 2 w A' c' b) (la : a.length ≤ 5000) (lb : b.length ≤ 5000) :
    Calls Try.prog 74 #[.slice A a.length c, .slice A' b.length c'] w fun e w' => ∃ A2 c2, e = .returned (.slice A2 (bordL (bordL [] a) b).length c2) ∧ Sl bi 1 w' A2 c2 (bordL (bordL [] a) b) ∧ Below w.heap.size w w' := by
  have ha1 := hSa.le
  have hb1 := hSb.le
  have ha2 := hSa.max
  have hb2 := hSb.max
  have KP := hide (fun A c l n w hS hl => place_any A c l n w hS hl)
  obtain ⟨L0, hL0⟩ : ∃ L0, bordL [] a = L0 := ⟨_, rfl⟩
  rw [hL0]
  replace hL0 := hide hL0
  go_enter Try.func74, Try.ntmps74
  go_wp2
  go_loopw [5, 6] (fun v i wr => ∃ (k : Nat) (A3 : Option Addr) (c3 : Nat), k ≤ a.length ∧ i = .int .i64 k ∧ v = .slice A3 (bordL [] (a.take k)).length c3 ∧ Sl bi 1 wr A3 c3 (bordL [] (a.take k)) ∧ Below w.heap.size w wr) (fun _ i _ => a.length - (intOf i).toNat)
  case atStart => exact ⟨0, _, _, by omega, rfl, rfl, Sl.nil (by omega), kalloc (Below.refl _ _) _⟩
  case round =>
    obtain ⟨k, A3, c3, hk, rfl, rfl, hS3, hb⟩ := hrel
    have hl3 := bordL_tlen a [] k
    simp only [List.length_nil] at hl3
    by_cases hlt : k < a.length
    · obtain ⟨x, bb, off, hx, hdr, rfl, hbw, c1, c2⟩ := Sl.two hSa hb hlt
      have hbr : bb < wr.heap.size := Nat.lt_of_lt_of_le hbw hb.size
      have e1 := hide (bordL_take [] hx)
      generalize bordL [] (a.take k) = L at *
      have hl4 := placeL_length L x.1
      have HS3 := hide hS3.drew
      have hbd := hb.drew
      clear hdr hx hSa hSb hS3 hb hbw ha1 ha2 hb1 hb2
      go_wp2_with fail
      go_region_held3 (fun w' => w'.cell? ⟨bb, off + k * 2, none⟩ = some (.int .i64 x.1) ∧ w'.cell? ⟨bb, off + k * 2 + 1, none⟩ = some (.int .i64 x.2))
        (first | exact ⟨c1, c2⟩ | exact ⟨f1, f2⟩)
        (first
          | (go_at_call 76; refine (KP.out _ _ _ _ _ h4 (by omega)).mono ?_; rintro e w5 ⟨A5, c5, rfl, h5, hb5⟩; replace f1 := kc hb5 hbr4 f1; replace f2 := kc hb5 hbr4 f2)
          | (go_at_call 76; refine (KP.out _ _ _ _ _ HS3.out (by omega)).mono ?_; rintro e w4 ⟨A4, c4, rfl, h4, hb4⟩; have f1 := kc hb4 hbr c1; have f2 := kc hb4 hbr c2; have hbr4 := Nat.lt_of_lt_of_le hbr hb4.size))
      have hB5 := kcall (kcall hbd hb4) hb5
      replace h5 := hide h5
      clear h4 hb4 hb5 f1 f2 hbd hbr4
      go_wp2
      go_roundw
      case rel => exact ⟨k + 1, A5, c5, by omega, by go_num, by rw [e1.out], by rw [e1.out]; exact h5.out, hB5⟩
      case measure => simp [intOf]; omega
    · obtain rfl : k = a.length := by omega
      rw [List.take_length, hL0.out] at hS3 hl3
      have HS3 := hide hS3
      clear hS3 hSa
      rw [List.take_length, hL0.out]
      go_wp2
      go_loopw [5, 7] (fun v i wr => ∃ (k : Nat) (A3 : Option Addr) (c3 : Nat), k ≤ b.length ∧ i = .int .i64 k ∧ v = .slice A3 (bordL L0 (b.take k)).length c3 ∧ Sl bi 1 wr A3 c3 (bordL L0 (b.take k)) ∧ Below w.heap.size w wr) (fun _ i _ => b.length - (intOf i).toNat)
      case atStart => exact ⟨0, _, _, by omega, rfl, rfl, HS3.out, hb⟩
      case round =>
        obtain ⟨k, A4, c4, hk, rfl, rfl, hS4, hq⟩ := hrel
        have hl4 := bordL_tlen b L0 k
        by_cases hlt : k < b.length
        · obtain ⟨x, bb, off, hx, hdr, rfl, hbw, c1, c2⟩ := Sl.two hSb hq hlt
          have hbr : bb < wr.heap.size := Nat.lt_of_lt_of_le hbw hq.size
          have e1 := hide (bordL_take L0 hx)
          generalize bordL L0 (b.take k) = L at *
          have hl5 := placeL_length L x.1
          have HS4 := hide hS4.drew
          have hbd := hq.drew
          clear hdr hx hSb hS4 hq hbw ha1 ha2 hb1 hb2 HS3
          go_wp2_with fail
          go_region_held3 (fun w' => w'.cell? ⟨bb, off + k * 2, none⟩ = some (.int .i64 x.1) ∧ w'.cell? ⟨bb, off + k * 2 + 1, none⟩ = some (.int .i64 x.2))
            (first | exact ⟨c1, c2⟩ | exact ⟨f1, f2⟩)
            (first
              | (go_at_call 76; refine (KP.out _ _ _ _ _ h4 (by omega)).mono ?_; rintro e w5 ⟨A5, c5, rfl, h5, hb5⟩; replace f1 := kc hb5 hbr4 f1; replace f2 := kc hb5 hbr4 f2)
              | (go_at_call 76; refine (KP.out _ _ _ _ _ HS4.out (by omega)).mono ?_; rintro e w4 ⟨A4, c4, rfl, h4, hb4⟩; have f1 := kc hb4 hbr c1; have f2 := kc hb4 hbr c2; have hbr4 := Nat.lt_of_lt_of_le hbr hb4.size))
          have hB5 := kcall (kcall hbd hb4) hb5
          replace h5 := hide h5
          clear h4 hb4 hb5 f1 f2 hbd hbr4
          go_wp2
          go_roundw
          case rel => exact ⟨k + 1, A5, c5, by omega, by go_num, by rw [e1.out], by rw [e1.out]; exact h5.out, hB5⟩
          case measure => simp [intOf]; omega
        · obtain rfl : k = b.length := by omega
          rw [List.take_length] at hS4
          have H := hide hS4
          clear hS4 hl4 HS3 hSb
          rw [List.take_length]
          go_wp2
          go_ret
          exact ⟨_, _, rfl, H.out, hq⟩

/-! ### add -/

theorem sl_pre {α : Type} {f : α → List Value} {sz : Nat} {w : World} {A : Option Addr} {c : Nat} {l1 l2 : List α} (h : Sl f sz w A c (l1 ++ l2)) : Sl f sz w A c l1 :=
  ⟨by have := h.le; simp at this; omega, h.max, fun x hx => h.size x (by simp [hx]), fun hn => by
    obtain ⟨b, off, e, hb, hc⟩ := h.cells (by simp [hn])
    refine ⟨b, off, e, hb, fun i v hv => hc i v ?_⟩
    rw [List.flatMap_append, List.getElem?_append_left (List.getElem?_eq_some_iff.1 hv).1]; exact hv⟩
theorem nil_snoc {α : Type} (ls : List α) : ls = [] ∨ ∃ l' y, ls = l' ++ [y] := by
  rcases List.eq_nil_or_concat ls with h | ⟨l', y, h⟩
  · exact .inl h
  · exact .inr ⟨l', y, by rw [h]; simp⟩
theorem addL_nil (x : Sp) : addL [] x = [x] := rfl
theorem addL_yes (l : List Sp) (y x : Sp) (h : y.2 = x.1) : addL (l ++ [y]) x = l ++ [(y.1, x.2)] := by unfold addL; simp [h]
theorem addL_no (l : List Sp) (y x : Sp) (h : ¬ y.2 = x.1) : addL (l ++ [y]) x = l ++ [y] ++ [x] := by unfold addL; simp [h]
theorem addL_length (l : List Sp) (x : Sp) : (addL l x).length ≤ l.length + 1 := by
  rcases nil_snoc l with rfl | ⟨l', y, rfl⟩
  · simp [addL_nil]
  · by_cases h : y.2 = x.1
    · rw [addL_yes _ _ _ h]; simp
    · rw [addL_no _ _ _ h]; simp
theorem bc_one (l : List Sp) : ∀ x ∈ l, ∀ u ∈ bc x, u.oneCell' = true := by intro x _ u hu; simp [bc] at hu; rcases hu with rfl | rfl <;> rfl

set_option maxHeartbeats 4000000 in
theorem add_any (base : Nat) (v : Value) (l : List Sp) (x1 x2 : Int) (w : World) (hO : OwnL bc 2 62 w base v l) (hbase : base ≤ w.heap.size) (hl : l.length ≤ 100000) :
    Calls Try.prog 75 #[v, .agg #[.int .i64 x1, .int .i64 x2]] w fun e w' => ∃ v', e = .returned v' ∧ OwnL bc 2 62 w' base v' (addL l (x1, x2)) ∧ Below base w w' := by
  obtain ⟨i0, hi, hz0, hz1, hz2⟩ := info_parts Try_info62
  have HI := hide hi
  clear hi
  obtain ⟨A, c, rfl, hS⟩ := hO.sl
  have hc := hS.max
  have hlc := hS.le
  have hb0 : Below base w (w.alloc (.cells #[.int .i64 x1, .int .i64 x2] 62)) := (Below.refl base w).alloc hbase _
  rcases nil_snoc l with rfl | ⟨l', y, rfl⟩
  · have HO := hide hO
    simp only [List.length_nil] at HO ⊢
    clear hO hS
    go_enter Try.func75, Try.ntmps75
    go_wp2_with fail
    refine at_world (fun W => Blk W w.heap.size 62 #[.int .i64 x1, .int .i64 x2] ∧ OwnL bc 2 62 W base (.slice A 0 c) [] ∧ Below base w W ∧ base ≤ W.heap.size) ⟨Blk.new _ _ _, HO.out.alloc _, hb0, by simp; omega⟩ ?_
    rintro W ⟨hB, hO, hb', hW⟩
    have y0 := hB.cell (v := .int .i64 x1) 0 rfl
    have y1 := hB.cell (v := .int .i64 x2) 1 rfl
    have hBl := hB.lt
    replace HO := hide hO
    clear hB hO hb0
    refine wp_still_all (by kernel_rfl) (by kernel_rfl) ?_
    repeat ((with_reducible refine wpStill_step (fun K hK => ?_)); go_simp; (try go_bits); (with_reducible refine hK _ ?_); clear hK K)
    (with_reducible refine wpStill_nil ?_)
    go_wp2_with (at_builtin; refine wpList_push (f := bc) (y := (x1, x2)) (l := []) rfl (.tmp 38) (.tmp 40) 30 rfl Try.underlying30 HI.out hz0 hz1 hz2 rfl (by decide) rfl (HO.out.drew.alloc _) rfl (heap_new _ _) rfl rfl ?_ ?_ ?_ ?_ ?_)
    · simp [Value.oneCell', bc]
    · simp [maxLen]
    · simp
    · simp; omega
    · intro v' w2 hO2 hgr hat
      have H2 := hide hO2
      have hb2 := hide (Below.grown (hb'.drew.alloc hW _) hgr (by simp; omega) (fun g hg => (HO.out.blk hg).1))
      clear hO2 hgr hat
      go_wp2
      go_ret
      exact ⟨_, rfl, by rw [addL_nil]; exact H2.out, hb2.out⟩
  · have HO := hide hO
    have S0 := hide (sl_pre hS)
    simp only [List.length_append, List.length_cons, List.length_nil, Nat.zero_add] at HO hlc hl ⊢
    clear hO hS
    go_enter Try.func75, Try.ntmps75
    go_wp2_with fail
    refine at_world (fun W => Blk W w.heap.size 62 #[.int .i64 x1, .int .i64 x2] ∧ OwnL bc 2 62 W base (.slice A (l'.length + 1) c) (l' ++ [y]) ∧ Sl bc 2 W A c l' ∧ Below base w W ∧ base ≤ W.heap.size) ⟨Blk.new _ _ _, HO.out.alloc _, S0.out.alloc _, hb0, by simp; omega⟩ ?_
    rintro W ⟨hB, hO, hS, hb', hW⟩
    have y0 := hB.cell (v := .int .i64 x1) 0 rfl
    have y1 := hB.cell (v := .int .i64 x2) 1 rfl
    have hBl := hB.lt
    obtain ⟨g, cap, hv, hg1, hg2, hcap, -, -, hcell, -⟩ := hO.last
    simp only [Value.slice.injEq] at hv
    obtain ⟨rfl, -, rfl⟩ := hv
    have u0 := hcell 0 (.int .i64 y.1) rfl
    have u1 := hcell 1 (.int .i64 y.2) rfl
    simp only [Nat.add_zero] at u0
    replace HO := hide hO
    replace S0 := hide hS
    have hl1 : (0 : Int) < (l'.length : Int) + 1 := by omega
    have hl2 : (l'.length : Int) < (l'.length : Int) + 1 := by omega
    clear hB hO hS hcell hb0
    have hgB : ∀ {W W' : World} {row : Option Nat}, W.grownBy W' row → W.heap.size ≤ W'.heap.size := fun h => h.size
    by_cases hyx : y.2 = x1
    · have E := hide (addL_yes l' y (x1, x2) hyx)
      subst hyx
      refine wp_still_all (by kernel_rfl) (by kernel_rfl) ?_
      repeat ((with_reducible refine wpStill_step (fun K hK => ?_)); go_simp; (try go_bits); (with_reducible refine hK _ ?_); clear hK K)
      (with_reducible refine wpStill_nil ?_)
      go_wp2_with fail
      refine at_world (fun W2 => Sl bc 2 W2 (some ⟨g, 0, none⟩) c l' ∧ W2.cell? ⟨g, l'.length * 2, none⟩ = some (.int .i64 y.1) ∧ W2.cell? ⟨w.heap.size, 1, none⟩ = some (.int .i64 x2) ∧ Below base w W2 ∧ base ≤ W2.heap.size ∧ g < W2.heap.size ∧ w.heap.size < W2.heap.size) ⟨S0.out.drew, u0, y1, hb'.drew, hW, hg2, hBl⟩ ?_
      clear u0 u1 y0 y1 HO S0 hb' hW hg2 hBl
      clear W
      rintro W ⟨S0, u0, y1, hb', hW, hg2, hBl⟩
      replace S0 := hide S0
      have hll : l'.length ≤ 100000 := by omega
      have j1 : (0 : Int) ≤ (l'.length : Int) := by omega
      have j2 : (l'.length : Int) ≤ (l'.length : Int) + 1 := by omega
      have j3 : (l'.length : Int) ≤ (c : Int) := by omega
      have j4 : IntKind.i64.wrap (l'.length : Int) = (l'.length : Int) := IntWalk.i64_in _ (by omega)
      have j5 : IntKind.i64.wrap ((l'.length : Int) + 1 - 1) = (l'.length : Int) := (IntWalk.i64_in _ (by omega)).trans (by omega)
      go_region_held3 (fun w' => w'.cell? ⟨g, l'.length * 2, none⟩ = some (.int .i64 y.1) ∧ w'.cell? ⟨w.heap.size, 1, none⟩ = some (.int .i64 x2))
        (first | exact ⟨u0, y1⟩ | exact ⟨f1, f2⟩ | go_keep)
        (first
          | (refine step_append (v := .slice (some ⟨_, 0, none⟩) 0 0) rfl (.tmp 21) (.tmp 25) 30 rfl rfl rfl (run_extend (f := bc) (base := W.heap.size) (l1 := []) (l2 := l') Try.underlying30 HI.out hz0 hz1 hz2 rfl (by decide) (by first | exact (OwnL.fresh' (by simp) (by omega)).drew | exact ((OwnL.fresh' (by simp) (by omega)).alloc _).drew) (by first | exact (S0.out.alloc _).drew | exact ((S0.out.alloc _).alloc _).drew) (bc_one _) (by simp [maxLen]; omega) (by simp; omega) (by simp <;> omega)) ?_
             rintro v' w' ⟨gO, gG, gB⟩
             have f1 := gcell (b := g) (o := l'.length * 2) (v := .int .i64 y.1) gG (by simp; omega) (by simp [Value.ownBlock]; omega) (by simp [go_sem, u0, hg2])
             have f2 := gcell (b := w.heap.size) (o := 1) (v := .int .i64 x2) gG (by simp; omega) (by simp [Value.ownBlock]; omega) (by simp [go_sem, y1, hBl])
             have gN : W.heap.size ≤ w'.heap.size := Nat.le_trans (by simp <;> omega) (hgB gG)
             have gBel : Below W.heap.size W w' := Below.grown (by first | exact ((Below.refl _ _).alloc (Nat.le_refl _) _).drew | exact (((Below.refl _ _).alloc (Nat.le_refl _) _).alloc (by simp) _).drew) gG (by simp <;> omega) (fun k hk => by simp [Value.ownBlock] at hk; omega)
             try (have xB := Blk.grown (b := W.heap.size + 1) (cs := #[.int .i64 y.1, .int .i64 x2]) (ty := 62) (Blk.drew (Blk.new' (by simp))) gG (by simp [Value.ownBlock]))
             try (have xB := Blk.grown (b := W.heap.size) (cs := #[.int .i64 y.1, .int .i64 x2]) (ty := 62) (Blk.drew (Blk.alloc (Blk.new' (by simp)) _)) gG (by simp [Value.ownBlock])))
          | (refine step_append (v := v') (u := .slice (some ⟨_, 0, none⟩) 1 1) rfl (.tmp 26) (.tmp 36) 30 rfl rfl rfl (run_extend (f := bc) (base := W.heap.size) (l1 := [] ++ l') (l2 := [(y.1, x2)]) Try.underlying30 HI.out hz0 hz1 hz2 rfl (by decide) (by first | exact gO | exact gO.alloc _) (by first | exact Sl.one xB rfl rfl (by decide) (by decide) | exact Sl.one (Blk.new' rfl) rfl rfl (by decide) (by decide)) (bc_one _) (by simp [maxLen]; omega) (by simp; omega) (by first | exact gN | exact Nat.le_trans gN (by simp) | omega)) ?_
             rintro v'' w'' ⟨gO2, gG2, gB2⟩
             have gBel2 : Below W.heap.size W w'' := Below.grown (by first | exact gBel | exact gBel.alloc gN _) gG2 (by first | exact gN | exact Nat.le_trans gN (by simp)) (fun k hk => (gO.blk hk).1)
             have f1 := (gBel2.cell (p := ⟨g, l'.length * 2, none⟩) hg2).trans u0
             have f2 := (gBel2.cell (p := ⟨w.heap.size, 1, none⟩) hBl).trans y1))
      all_goals
        replace gO2 := hide (OwnL.mono gO2 hW)
        replace gBel2 := hide (hb'.trans (gBel2.mono hW))
        clear gO gG gG2 gB gB2
        go_wp2
        go_ret
        exact ⟨_, rfl, by rw [E.out]; exact gO2.out, gBel2.out⟩
    · have E := hide (addL_no l' y (x1, x2) hyx)
      have gd : (y.2 == x1) = false := by simp [hyx]
      refine wp_still_all (by kernel_rfl) (by kernel_rfl) ?_
      repeat ((with_reducible refine wpStill_step (fun K hK => ?_)); go_simp; (try go_bits); (with_reducible refine hK _ ?_); clear hK K)
      (with_reducible refine wpStill_nil ?_)
      go_wp2_with (at_builtin; refine wpList_push (f := bc) (y := (x1, x2)) (l := l' ++ [y]) rfl (.tmp 38) (.tmp 40) 30 rfl Try.underlying30 HI.out hz0 hz1 hz2 rfl (by decide) rfl (HO.out.drew.alloc _) rfl (heap_new _ _) rfl rfl ?_ ?_ ?_ ?_ ?_)
      · simp [Value.oneCell', bc]
      · simp only [maxLen, List.length_append, List.length_cons, List.length_nil]; omega
      · simp only [List.length_append, List.length_cons, List.length_nil]; omega
      · simp; omega
      · intro v' w2 hO2 hgr hat
        have H2 := hide hO2
        have hb2 := hide (Below.grown (hb'.drew.alloc hW _) hgr (by simp; omega) (fun g hg => (HO.out.blk hg).1))
        clear hO2 hgr hat
        go_wp2
        go_ret
        exact ⟨_, rfl, by rw [E.out]; have h := H2.out; simp only [List.append_assoc, List.cons_append, List.nil_append] at h ⊢; exact h, hb2.out⟩
end Go.Proofs.Ytbfgbkblblnbhaa

/-
  health.Voters, the way on which voters are made.
-/
import Derived.Test.YtbfgbkblblnbhaaHSpans
import Derived.Test.YtbfgbkblblnbhaaMore
namespace Go.Proofs.Ytbfgbkblblnbhaa
open Go.RowKit Go.Shelf Go.Mine Go.Mine.H
attribute [local go_sem] Oper.semAt_some

def votB (l : List Beat) (q t : Int) (n : Nat) : Bool := heardIn (ofL l (n : Int) true) q t
def votArr (l : List Beat) (q t : Int) (m k : Nat) : Array Value := ((List.range m).map fun n => Value.bool (if n < k then votB l q t n else false)).toArray
theorem votArr_size (l : List Beat) (q t : Int) (m k : Nat) : (votArr l q t m k).size = m := by simp [votArr]
theorem votArr_set (l : List Beat) (q t : Int) (m k : Nat) (hk : k < m) : votArr l q t m (k + 1) = (votArr l q t m k).setIfInBounds k (.bool (votB l q t k)) := by
  apply Array.ext
  · simp [votArr]
  · intro i h1 h2
    simp only [votArr, List.size_toArray, List.length_map, List.length_range] at h1
    rw [Array.getElem_setIfInBounds (by simpa [votArr] using h1)]
    simp only [votArr, List.getElem_toArray, List.getElem_map, List.getElem_range]
    by_cases h : k = i
    · subst h; simp
    · rw [if_neg h]; congr 1
      by_cases h3 : i < k
      · simp [h3, show i < k + 1 by omega]
      · simp [h3, show ¬ i < k + 1 by omega]
theorem votArr_skip (l : List Beat) (q t : Int) (m k : Nat) (h : votB l q t k = false) : votArr l q t m (k + 1) = votArr l q t m k := by
  unfold votArr
  congr 1
  apply List.map_congr_left
  intro n _
  congr 1
  by_cases h3 : n < k
  · simp [h3, show n < k + 1 by omega]
  · by_cases h4 : n = k
    · subst h4; simp [h]
    · simp [h3, show ¬ n < k + 1 by omega]
theorem Try_info4 : (Try.prog.info? 4).map (fun i => (i.zero, i.size, i.bytes)) = some (some (.bool false), 1, 1) := by kernel_rfl

set_option maxHeartbeats 2000000 in
theorem Voters_good (A : Option Addr) (c : Nat) (l : List Beat) (m : Nat) (q t : Int) (w : World) (hS : Sl bc 2 w A c l) (hz : chk l = 0) (hm : withinB (m : Int) 1 16 = true) (hq : withinB q 1 1073741824 = true) (ht : withinB t 0 1099511627775 = true) :
    Calls Try.prog 23 #[.slice A l.length c, .int .i64 m, .int .i64 q, .int .i64 t] w fun e w' => ∃ g, e = .returned (.tuple #[.slice (some ⟨g, 0, none⟩) m m, .int .i64 0]) ∧ w'.heap[g]? = some (.cells (votArr l q t m m) 4 (0, 0)) ∧ Below w.heap.size w w' := by
  have hso := chk_sorted l hz
  obtain ⟨q1, q2⟩ := (withinB_iff _ _ _).1 hq
  obtain ⟨t1, t2⟩ := (withinB_iff _ _ _).1 ht
  obtain ⟨m1, m2⟩ := (withinB_iff _ _ _).1 hm
  obtain ⟨i0, hi0, hz0, hz1, hz3⟩ := info_parts Try_info4
  have hmk := fun W => run_make_rowN (P := Try.prog) 33 4 i0 (.bool false) Try.underlying33 hi0 hz0 .i64 .i64 m m (Nat.le_refl _) (by rw [hz3]; omega) (by omega) W
  rw [hz1, Nat.mul_one] at hmk
  have K47 := hide (fun w (hS : Sl bc 2 w A c l) => checkF_true A c l w hS hz)
  clear hz
  refine (callsIn_wide (n := 9)).1 (callsIn_of_wp_marks Try.func23 rfl trivial ?_ rfl)
  simp only [Try.ntmps23]
  simp only [List.size_toArray, List.length_cons, List.length_nil, Nat.reduceAdd, Nat.reduceSub, Array.replicate_succ, Array.replicate_zero, List.push_toArray, List.append_toArray, List.nil_append, List.cons_append]
  gi_wp2
  refine wpIn_scope ?_
  gi_wp2_with (first | (gi_at_call 50; refine (callsIn_wide.2 (isTime_any _ _)).mono ?_; rintro e w' ⟨rfl, rfl⟩) | (gi_at_call 49; refine (callsIn_wide.2 (within_any _ _ _ _)).mono ?_; rintro e w' ⟨rfl, rfl⟩))
  obtain ⟨w2, hw2⟩ : ∃ w2, ((w.alloc (.cells #[.int .i64 q] 3)).alloc (.cells #[.int .i64 t] 3)).alloc (.cells #[.slice none 0 0] 33) = w2 := ⟨_, rfl⟩
  have b0 : Bx (fun _ => False) w2 w.heap.size 3 (.int .i64 q) := by rw [← hw2]; exact ((Bx.of (by simp) (heap_new _ _)).alloc _).alloc _
  have b1 : Bx (fun _ => False) w2 (w.heap.size + 1) 3 (.int .i64 t) := by rw [← hw2]; exact (Bx.of (by simp) (new_row1 _ _ _)).alloc _
  have b2 : Bx (fun _ => False) w2 (w.heap.size + 1 + 1) 33 (.slice none 0 0) := by rw [← hw2]; exact .of (by simp) (new_row2 _ _ _ _)
  have hb2 : Below w.heap.size w w2 := by rw [← hw2]; exact ((((Below.refl _ _).alloc (Nat.le_refl _) _).alloc (by simp) _).alloc (by simp; omega) _)
  have hz2 : w2.heap.size = w.heap.size + 3 := by rw [← hw2]; simp
  rw [hw2]
  clear hw2
  refine (callsIn_wide.2 (K47.out w2 (hS.bel hb2))).mono ?_
  rintro e w3 ⟨rfl, hb3⟩
  have hz3' := hb3.size
  have b0 := b0.bel hb3
  have b1 := b1.bel hb3
  have b2 := b2.bel hb3
  have hb3' : Below w.heap.size w w3 := hb2.trans (hb3.mono (by omega))
  have c2 := b2.cell
  have f2 := b2.frozen
  have l2 := b2.lt
  gi_wp2
  refine wpIn_label ?_
  obtain ⟨w4, hw4⟩ : ∃ w4, ((w3.setCell ⟨w.heap.size + 1 + 1, 0, none⟩ (.slice (some ⟨w3.heap.size, 0, none⟩) m m)).alloc (.cells (madeCells #[.bool false] m) 4)) = w4 := ⟨_, rfl⟩
  have hzs : (w3.setCell ⟨w.heap.size + 1 + 1, 0, none⟩ (.slice (some ⟨w3.heap.size, 0, none⟩) m m)).heap.size = w3.heap.size := by simp [World.setCell]
  have d0 : Bx (fun _ => False) w4 w.heap.size 3 (.int .i64 q) := by rw [← hw4]; exact (b0.far _ (by dsimp only; omega)).alloc _
  have d1 : Bx (fun _ => False) w4 (w.heap.size + 1) 3 (.int .i64 t) := by rw [← hw4]; exact (b1.far _ (by dsimp only; omega)).alloc _
  have d2 : Bx (fun _ => False) w4 (w.heap.size + 1 + 1) 33 (.slice (some ⟨w3.heap.size, 0, none⟩) m m) := by rw [← hw4]; exact (b2.set _).alloc _
  have d3 : w4.heap[w3.heap.size]? = some (.cells (votArr l q t m 0) 4 (0, 0)) := by
    have hn := heap_new (w3.setCell ⟨w.heap.size + 1 + 1, 0, none⟩ (.slice (some ⟨w3.heap.size, 0, none⟩) m m)) (.cells (madeCells #[.bool false] m) 4)
    rw [hzs] at hn
    rw [← hw4, hn]
    have : madeCells #[.bool false] m = votArr l q t m 0 := by
      apply Array.toList_inj.1
      rw [toList_madeCells_one]
      simp only [votArr, Nat.not_lt_zero, if_false, List.map_const', List.length_range]
    rw [this]
  have hb4 : Below w.heap.size w w4 := by rw [← hw4]; exact ((hb3'.setCell (by dsimp only; omega) _).alloc (by rw [hzs]; omega) _)
  have hz4 : w4.heap.size = w3.heap.size + 1 := by rw [← hw4, World.size_alloc, hzs]
  rw [hw4]
  clear hw4 hzs b0 b1 b2 c2 f2 l2 hmk
  gi_wp2
  refine wpIn_loop (fun a' w' => ∃ (u10 u31 u32 u33 u34 u35 u48 : Value) (k : Nat) (ds : List Nat), a' = { tmps := #[.slice A l.length c, .int .i64 m, .int .i64 q, .int .i64 t, undef, undef, .pointer (some ⟨w.heap.size, 0, none⟩), .pointer (some ⟨w.heap.size + 1, 0, none⟩), .pointer (some ⟨w.heap.size + 1 + 1, 0, none⟩), .int .i64 0, u10, undef, .slice A l.length c, .int .i64 m, .bool true, .bool true, .int .i64 q, .bool true, .bool true, .bool true, .int .i64 t, .bool true, .bool true, .int .i64 0, .int .i64 0, .bool false, undef, .int .i64 m, .slice (some ⟨w3.heap.size, 0, none⟩) m m, .int .i64 m, .int .i64 k, u31, u32, u33, u34, u35, undef, undef, undef, undef, undef, undef, undef, undef, undef, undef, undef, undef, u48, undef], defers := marksOf ds } ∧ k ≤ m ∧
      Bx (fun _ => False) w' w.heap.size 3 (.int .i64 q) ∧ Bx (fun _ => False) w' (w.heap.size + 1) 3 (.int .i64 t) ∧ Bx (fun _ => False) w' (w.heap.size + 1 + 1) 33 (.slice (some ⟨w3.heap.size, 0, none⟩) m m) ∧
      w'.heap[w3.heap.size]? = some (.cells (votArr l q t m k) 4 (0, 0)) ∧ Marks (w3.heap.size + 1) w' ds ∧ Below w.heap.size w w' ∧ w3.heap.size + 1 ≤ w'.heap.size)
    (fun a' _ => m - (intOf (a'.tmps.getD 30 undef)).toNat) ?_ ?_
  · exact ⟨_, _, _, _, _, _, _, 0, [], rfl, Nat.zero_le _, d0, d1, d2, d3, Marks.nil _ _, hb4, by omega⟩
  · rintro a' wr ⟨u10, u31, u32, u33, u34, u35, u48, k, ds, rfl, hk, e0, e1, e2, e3, hM, hbr, hzr⟩
    by_cases hlt : k < m
    · have hxs : ∀ a ∈ ofL l (k : Int) true, 0 ≤ a ∧ a ≤ 1099511627775 := by
        intro a ha
        simp only [ofL, dir, if_true, List.mem_map, List.mem_filter, List.mem_reverse] at ha
        obtain ⟨x, ⟨hx, _⟩, rfl⟩ := ha
        exact ⟨(hso.2.1 x hx).1, (hso.2.1 x hx).2.1⟩
      have HM := hide hM
      clear hM hso
      gi_wp2_with fail
      obtain ⟨w5, hw5⟩ : ∃ w5, wr.alloc (.cells #[.int .i64 k] 3) = w5 := ⟨_, rfl⟩
      have hz5 : w5.heap.size = wr.heap.size + 1 := by rw [← hw5]; simp
      have g0 := e0.alloc (.cells #[.int .i64 k] 3)
      have g1 := e1.alloc (.cells #[.int .i64 k] 3)
      have g2 := e2.alloc (.cells #[.int .i64 k] 3)
      have g3 := heap_alloc_at e3 (.cells #[.int .i64 k] 3)
      have g4 : Bx (fun _ => False) w5 wr.heap.size 3 (.int .i64 k) := by rw [← hw5]; exact .of (by simp) (heap_new _ _)
      have gM := HM.out.bel ((Below.refl _ wr).alloc (Nat.le_refl _) (.cells #[.int .i64 k] 3))
      have hb5 := hbr.alloc (by omega) (.cells #[.int .i64 k] 3)
      rw [hw5] at g0 g1 g2 g3 gM hb5 ⊢
      clear hw5
      refine (callsIn_wide.2 (of_any w w5 A c l k true hS hb5)).mono ?_
      rintro e w1 ⟨lb, rfl, hb1, hz1', hit⟩
      have g0 := g0.bel hb1
      have g1 := g1.bel hb1
      have g2 := g2.bel hb1
      have g4 := g4.bel hb1
      have g3 := (hb1.block _ (Array.getElem?_eq_some_iff.1 g3).1).trans g3
      have gM := gM.bel hb1
      have hnd : w1.heap.size ∉ ds := fun h => by have := HM.out.lt h; omega
      have hb1' := hb5.trans (hb1.mono (by omega))
      have HGM := hide gM
      have HG3 := hide g3
      clear g3 gM e3
      gi_wp2
      refine wpIn_range1 (gf := 70) (lb := lb) rfl (enters_of Try.func70 (by kernel_rfl) rfl) (Value.int .i64) hit (Nat.le_refl _) (fun b hb => ⟨by rcases hb with h | h <;> omega, rfl⟩) 11
        (fun j O W => (∀ b, O b → wr.heap.size + 4 ≤ b) ∧ wr.heap.size + 4 ≤ W.heap.size ∧ Bx O W w.heap.size 3 (.int .i64 q) ∧ Bx O W (w.heap.size + 1) 3 (.int .i64 t) ∧ Bx O W (w.heap.size + 1 + 1) 33 (.slice (some ⟨w3.heap.size, 0, none⟩) m m) ∧ Bx O W wr.heap.size 3 (.int .i64 k) ∧
          W.heap[w3.heap.size]? = some (.cells (votArr l q t m k) 4 (0, 0)) ∧ MarksO (w3.heap.size + 1) O W ds ∧ Below w.heap.size w W ∧
          ((ofL l (k : Int) true).drop j).find? (fun a => decide (a ≤ t)) = (ofL l (k : Int) true).find? (fun a => decide (a ≤ t)))
        (fun c O W => c = .exit 1 ∧ (∀ b, O b → wr.heap.size + 4 ≤ b) ∧ wr.heap.size + 4 ≤ W.heap.size ∧ Bx O W w.heap.size 3 (.int .i64 q) ∧ Bx O W (w.heap.size + 1) 3 (.int .i64 t) ∧ Bx O W (w.heap.size + 1 + 1) 33 (.slice (some ⟨w3.heap.size, 0, none⟩) m m) ∧
          W.heap[w3.heap.size]? = some (.cells (votArr l q t m (k + 1)) 4 (0, 0)) ∧ MarksO (w3.heap.size + 1) O W ds ∧ Below w.heap.size w W)
        ?_ ?_ ?_ ?assign ?body ?done ?stop
      · rintro j O O' W W' ⟨h1, h2, h3, h4, h5, h6, h7, h8, h9, h10⟩ st
        exact ⟨O_step st h1 h2, Nat.le_trans h2 st.size, h3.step st, h4.step st, h5.step st, h6.step st, (st.keep _ (by omega) (fun h => by have := h1 _ h; omega)).trans h7, h8.step st, st.below h9 (by omega) (fun b hb => by have := h1 b hb; omega), h10⟩
      · rintro j O O' W W' ⟨h0, h1, h2, h3, h4, h5, h7, h8, h9⟩ st
        exact ⟨h0, O_step st h1 h2, Nat.le_trans h2 st.size, h3.step st, h4.step st, h5.step st, (st.keep _ (by omega) (fun h => by have := h1 _ h; omega)).trans h7, h8.step st, st.below h9 (by omega) (fun b hb => by have := h1 b hb; omega)⟩
      · exact ⟨fun b hb => hb.elim, by omega, g0, g1, g2, g4, HG3.out, ⟨HGM.out, fun _ _ h => h⟩, hb1', rfl⟩
      case assign =>
        intro lp x W K hK
        gi_wp2
        exact hK
      case body =>
        rintro lp j a O W hxa ⟨h1, h2, h3, h4, h5, h6, h7, h8, h9, h10⟩ hO hz
        obtain ⟨ha1, ha2⟩ := hxs a (List.mem_of_getElem? hxa)
        rw [drop_of_get hxa, List.find?_cons] at h10
        have c3 := h3.cell
        have c4 := h4.cell
        have c5 := h5.cell
        have c6 := h6.cell
        have hcs : (votArr l q t m k)[k]? = some ((votArr l q t m k)[k]'(by rw [votArr_size]; exact hlt)) := Array.getElem?_eq_getElem _
        have c7 : ∃ v, W.cell? ⟨w3.heap.size, k, none⟩ = some v := ⟨_, by simp only [World.cell?, h7, Option.isSome_none, Bool.false_eq_true, if_false]; exact hcs⟩
        obtain ⟨v7, c7⟩ := c7
        have f7 : W.frozen? ⟨w3.heap.size, k, none⟩ = false := by simp [World.frozen?, h7]
        have H7 := hide h7
        have H8 := hide h8
        have H1 := hide h1
        have HO := hide hO
        clear hxs hxa hit hcs h7 h8 h1 hO HM HGM HG3
        by_cases hat : a ≤ t
        · simp only [hat, decide_true] at h10
          have H10 := hide h10
          clear h10
          gi_wp2
          have he : votB l q t k = decide (t - a < q) := by unfold votB heardIn; rw [← H10.out]
          refine ⟨(Kept.refl _ _).setCell _ (by rintro (h | h); (have := H1.out _ h; dsimp only at this; omega); dsimp only at h; omega), rfl, H1.out, by simp [World.setCell]; omega, h3.far _ (by dsimp only; omega), h4.far _ (by dsimp only; omega), h5.far _ (by dsimp only; omega), ?_, ⟨H8.out.m.set c7, H8.out.no⟩, h9.setCell (by dsimp only; omega) _⟩
          rw [votArr_set _ _ _ _ _ hlt, he]
          exact heap_set_at H7.out _
        · simp only [hat, decide_false] at h10
          have H10 := hide h10
          clear h10
          gi_wp2
          exact ⟨Kept.refl _ _, H1.out, h2, h3, h4, h5, h6, H7.out, H8.out, h9, H10.out⟩
      case done =>
        rintro O W ⟨h1, h2, h3, h4, h5, h6, h7, h8, h9, h10⟩ hO hD hOD hz
        rw [List.drop_length] at h10
        have he : votB l q t k = false := by unfold votB heardIn; rw [← h10]; rfl
        have H10 := hide h10
        have H8 := hide h8
        have H7 := hide h7
        clear h10 h7 h8 hxs hit HM HGM HG3
        gi_wp2
        refine ⟨⟨_, _, _, _, _, _, _, k + 1, w1.heap.size :: ds, rfl, by omega, ⟨fun h => h, h3.at_⟩, ⟨fun h => h, h4.at_⟩, ⟨fun h => h, h5.at_⟩, ?_, ?_, h9, by omega⟩, ?_⟩
        · rw [votArr_skip _ _ _ _ _ he]; exact H7.out
        · exact H8.out.m.cons hD (by omega) (fun h => hnd h)
        · simp [intOf]; omega
      case stop =>
        rintro c O W ⟨rfl, h1, h2, h3, h4, h5, h7, h8, h9⟩ hO hD hOD hz
        have H8 := hide h8
        have H7 := hide h7
        clear h7 h8 hxs hit HM HGM HG3
        gi_wp2
        refine ⟨⟨_, _, _, _, _, _, _, k + 1, w1.heap.size :: ds, rfl, by omega, ⟨fun h => h, h3.at_⟩, ⟨fun h => h, h4.at_⟩, ⟨fun h => h, h5.at_⟩, H7.out, ?_, h9, by omega⟩, ?_⟩
        · exact H8.out.m.cons hD (by omega) (fun h => hnd h)
        · simp [intOf]; omega
    · obtain rfl : k = m := by omega
      have c2 := e2.cell
      have f2 := e2.frozen
      have HM := hide hM
      have HE := hide e3
      clear hso hM e3
      gi_wp2
      rw [Exit.noGoto_ret]
      have hno : ∀ b, b < w3.heap.size + 1 → b ∉ ds := fun b hb h => by have := HM.out.low b h; omega
      refine leaves_all (HM.out.set c2) fun w' st hz' => ?_
      have g2 : Bx (· ∈ ds) w' (w.heap.size + 1 + 1) 33 (.slice (some ⟨w3.heap.size, 0, none⟩) k k) := (Bx.of (O := (· ∈ ds)) (hno _ (by omega)) (e2.set (.slice (some ⟨w3.heap.size, 0, none⟩) k k)).at_).step st
      have c6 := g2.cell
      refine ⟨.tuple #[.slice (some ⟨w3.heap.size, 0, none⟩) k k, .int .i64 0], by simp [results, Try.results23, go_sem, c6], w3.heap.size, rfl, ?_, ?_⟩
      · exact (st.keep _ (by simp [World.setCell]; omega) (hno _ (by omega))).trans (set_other HE.out (by dsimp only; omega))
      · exact st.below (hbr.setCell (by dsimp only; omega) _) (by simp [World.setCell]; omega) (fun b hb => by have := HM.out.low b hb; omega)
end Go.Proofs.Ytbfgbkblblnbhaa

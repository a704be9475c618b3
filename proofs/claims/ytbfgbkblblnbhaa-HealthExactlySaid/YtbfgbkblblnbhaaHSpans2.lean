/-
  health.Spans, the way on which spans are made.
-/
import Derived.Test.YtbfgbkblblnbhaaHSpans
import Derived.Test.YtbfgbkblblnbhaaBase2
namespace Go.Proofs.Ytbfgbkblblnbhaa
open Go.RowKit Go.Shelf Go.Mine Go.Mine.H
attribute [local go_sem] Oper.semAt_some

theorem Spans_good (A : Option Addr) (c : Nat) (l : List Beat) (n q : Int) (w : World) (hS : Sl bc 2 w A c l) (hz : chk l = 0) (ha : argsOk n q = true) :
    Calls Try.prog 21 #[.slice A l.length c, .int .i64 n, .int .i64 q] w fun e w' => ∃ v, e = .returned (.tuple #[v, .int .i64 0]) ∧ OwnL bc 2 62 w' w.heap.size v (spansGo q [] (ofL l n false)) ∧ Below w.heap.size w w' := by
  have hso := chk_sorted l hz
  obtain ⟨h1, h2⟩ : withinB n 0 15 = true ∧ withinB q 1 1073741824 = true := by simpa [argsOk] using ha
  obtain ⟨q1, q2⟩ := (withinB_iff _ _ _).1 h2
  have hxs : ∀ a ∈ ofL l n false, 0 ≤ a ∧ a ≤ 1099511627775 := by
    intro a ha
    simp only [ofL, dir, Bool.false_eq_true, if_false, List.mem_map, List.mem_filter] at ha
    obtain ⟨x, ⟨hx, _⟩, rfl⟩ := ha
    exact ⟨(hso.2.1 x hx).1, (hso.2.1 x hx).2.1⟩
  have hxl : (ofL l n false).length ≤ 4096 := Nat.le_trans (ofL_length _ _ _) hso.1
  have K47 := hide (fun w (hS : Sl bc 2 w A c l) => checkF_true A c l w hS hz)
  clear hz ha hso
  refine (callsIn_wide (n := 9)).1 (callsIn_of_wp_marks Try.func21 rfl trivial ?_ rfl)
  simp only [Try.ntmps21]
  simp only [List.size_toArray, List.length_cons, List.length_nil, Nat.reduceAdd, Nat.reduceSub, Array.replicate_succ, Array.replicate_zero, List.push_toArray, List.append_toArray, List.nil_append, List.cons_append]
  gi_wp2_with (first | (gi_at_call 48; refine (callsIn_wide.2 (isSource_any _ _)).mono ?_; rintro e w' ⟨rfl, rfl⟩) | (gi_at_call 49; refine (callsIn_wide.2 (within_any _ _ _ _)).mono ?_; rintro e w' ⟨rfl, rfl⟩))
  obtain ⟨w2, hw2⟩ : ∃ w2, ((w.alloc (.cells #[.int .i64 q] 3)).alloc (.cells #[.slice none 0 0] 30)) = w2 := ⟨_, rfl⟩
  have b0 : Bx (fun _ => False) w2 w.heap.size 3 (.int .i64 q) := by rw [← hw2]; exact (Bx.of (by simp) (heap_new _ _)).alloc _
  have b1 : Bx (fun _ => False) w2 (w.heap.size + 1) 30 (.slice none 0 0) := by rw [← hw2]; exact .of (by simp) (new_row1 _ _ _)
  have hb2 : Below w.heap.size w w2 := by rw [← hw2]; exact (((Below.refl _ _).alloc (Nat.le_refl _) _).alloc (by simp) _)
  have hz2 : w2.heap.size = w.heap.size + 2 := by rw [← hw2]; simp
  rw [hw2]
  clear hw2
  refine (callsIn_wide.2 (K47.out w2 (hS.bel hb2))).mono ?_
  rintro e w3 ⟨rfl, hb3⟩
  gi_wp2_with fail
  have hb3' : Below w.heap.size w w3 := hb2.trans (hb3.mono hb2.size)
  refine (callsIn_wide.2 (of_any w w3 A c l n false hS hb3')).mono ?_
  rintro e w1 ⟨lb, rfl, hb1, hz1, hit⟩
  have hz3 := hb3.size
  gi_wp2
  refine wpIn_range1 (gf := 70) (lb := lb) rfl (enters_of Try.func70 (by kernel_rfl) rfl) (Value.int .i64) hit (Nat.le_refl _) (fun b hb => ⟨by rcases hb with h | h <;> omega, rfl⟩) 8
    (fun k O W => (∀ b, O b → w.heap.size + 2 ≤ b) ∧ w.heap.size + 2 ≤ W.heap.size ∧ Bx O W w.heap.size 3 (.int .i64 q) ∧ Below w.heap.size w W ∧
      ∃ v, Bx O W (w.heap.size + 1) 30 v ∧ OwnO bc 2 62 O W (w3.heap.size + 3) v (spansGo q [] ((ofL l n false).take k)))
    (fun _ _ _ => False) ?_ (fun _ _ _ _ _ h _ => h) ?_ ?assign ?body ?done ?stop
  · rintro k O O' W W' ⟨h1, h2, h3, h4, v, h5, h6⟩ st
    exact ⟨O_step st h1 h2, Nat.le_trans h2 st.size, h3.step st, st.below h4 (by omega) (fun b hb => by have := h1 b hb; omega), v, h5.step st, h6.step st⟩
  · have hb31 : Below w2.heap.size w2 w1 := hb3.trans (hb1.mono hb3.size)
    exact ⟨fun b hb => hb.elim, by omega, b0.bel hb31, hb2.trans (hb31.mono (by omega)), _, b1.bel hb31, by rw [List.take_zero]; exact ⟨OwnL.nil _ _ _ _ _, by simp [Value.ownBlock]⟩⟩
  case assign =>
    intro lp x W K hK
    gi_wp2
    exact hK
  case body =>
    rintro lp k x O W hx ⟨h1', h2', h3, h4, v, h5, h6⟩ hO hz
    obtain ⟨a1, a2⟩ := hxs x (List.mem_of_getElem? hx)
    have hk := lt_of_get hx
    have c3 := h3.cell
    have c5 := h5.cell
    have f5 := h5.frozen
    have e1 : spansGo q [] ((ofL l n false).take (k + 1)) = joinL (spansGo q [] ((ofL l n false).take k)) (x, min (x + q) 1099511627776) := by rw [take_of_get hx, spansGo_snoc]; rfl
    have E1 := hide e1
    have H1 := hide h1'
    have HO := hide hO
    have hlen : (spansGo q [] ((ofL l n false).take k)).length < 8000 := by
      have := spansGo_length q ((ofL l n false).take k) []
      have := List.length_take_le k (ofL l n false)
      simp at *; omega
    have HL := hide hlen
    clear h1' hO hxs hx e1 hlen hit
    have hE : (∀ b, (b = x + q ∧ x + q ≤ 1099511627776 ∨ b = 1099511627776 ∧ 1099511627776 ≤ x + q) → min (x + q) 1099511627776 = b) := by
      rintro b (⟨rfl, h⟩ | ⟨rfl, h⟩) <;> omega
    have HE := hide hE
    have hWz : w3.heap.size + 3 ≤ W.heap.size := by omega
    clear hE
    gi_wp2_with fail
    all_goals
      refine (CallsIn.inRound lp (callsIn_wide.2 (joined_any (w3.heap.size + 3) v _ x _ W h6.own hWz HL.out))).mono ?_
      rintro en W2 ⟨v', rfl, hv', hgr, hat⟩
      obtain ⟨A2, cp2, hv2, -⟩ := hv'.sl
      subst hv2
      have hvb : ∀ g, v.ownBlock = some g → w3.heap.size + 3 ≤ g := fun g hg => (h6.own.blk hg).1
      have h6' := h6.new hv' hat (fun b hb => (HO.out b hb).2)
      have h5' := h5.grown hgr (fun e => by have := hvb _ e.symm; omega)
      have h3' := h3.grown hgr (fun e => by have := hvb _ e.symm; omega)
      have h4' := h4.grown hgr (by omega) (fun g hg => by have := hvb g hg; omega)
      have hK := (Kept.refl (fun b => O b ∨ (b < w.heap.size ∨ w3.heap.size ≤ b ∧ b < w3.heap.size + 3)) W).grown hgr (fun g hg => by
        have := hvb g hg
        rintro (h | h | h)
        · exact h6.no g hg h
        · omega
        · omega)
      have c5' := h5'.cell
      have f5' := h5'.frozen
      have HT := hide h2'
      have hs2 := hgr.size
      clear c3 c5 f5 hvb hat hgr
      gi_wp2
      refine ⟨hK.setCell _ (by rintro (h | h | h); exact h5'.no h; dsimp only at h; omega; dsimp only at h; omega), H1.out, by simp [World.setCell]; omega, h3'.far _ (by dsimp only; omega), h4'.setCell (by dsimp only; omega) _, _, h5'.set _, ?_⟩
      rw [E1.out, HE.out _ (by first | exact .inl ⟨rfl, by omega⟩ | exact .inr ⟨rfl, by omega⟩)]
      exact ⟨h6'.own.keep (fun g hg => Below.heap_setCell _ _ _ _ (by dsimp only; have := (h6'.own.blk hg).1; omega)), h6'.no⟩
  case done =>
    rintro O W ⟨h1', h2', h3, h4, v, h5, h6⟩ hO hD hOD hz
    rw [List.take_length] at h6
    obtain ⟨A2, cp2, hv2, -⟩ := h6.own.sl
    subst hv2
    have c5 := h5.cell
    have f5 := h5.frozen
    clear hxs hit
    gi_wp2
    have g := (h5.set (.slice A2 (spansGo q [] (ofL l n false)).length cp2)).put (D := w1.heap.size) (.deferred none) (by omega)
    have c6 := g.cell
    have hO6 : OwnL bc 2 62 (W.setCell ⟨w.heap.size + 1, 0, none⟩ (.slice A2 (spansGo q [] (ofL l n false)).length cp2)) (w3.heap.size + 3) (.slice A2 (spansGo q [] (ofL l n false)).length cp2) (spansGo q [] (ofL l n false)) :=
      h6.own.keep (fun g hg => Below.heap_setCell _ _ _ _ (by dsimp only; have := (h6.own.blk hg).1; omega))
    refine leaves_mark1 (v := .tuple #[.slice A2 (spansGo q [] (ofL l n false)).length cp2, .int .i64 0]) (set_other hD (by dsimp only; omega)) (by simp [results, Try.results21, go_sem, c6]) ⟨_, rfl, ?_, below_put (h4.setCell (by dsimp only; omega) _) _ (by omega)⟩
    exact (OwnO.put ⟨hO6, h6.no⟩ _ hOD).own.mono (by omega)
  case stop =>
    rintro c O W h
    exact h.elim
end Go.Proofs.Ytbfgbkblblnbhaa

/-
  health.of, health.heard.
-/
import Derived.Test.YtbfgbkblblnbhaaHOf
namespace Go.Proofs.Ytbfgbkblblnbhaa
open Go.RowKit Go.Shelf Go.Mine Go.Mine.H
attribute [local go_sem] Oper.semAt_some

theorem of_any (w0 w : World) (A : Option Addr) (c : Nat) (l : List Beat) (src : Int) (back : Bool) (hS : Sl bc 2 w0 A c l) (hb : Below w0.heap.size w0 w) :
    Calls Try.prog 55 #[.slice A l.length c, .int .i64 src, .bool back] w fun e w' => ∃ lb, e = .returned (.func (.func 70) #[] lb) ∧ Below w.heap.size w w' ∧ w'.heap.size = w.heap.size + 3 ∧
      Iter Try.prog 70 lb ((ofL l src back).map fun t => #[.int .i64 t]) (fun b => b < w0.heap.size ∨ (w.heap.size ≤ b ∧ b < w.heap.size + 3)) w' := by
  have hmf : ∀ (fn : Fn) (first cap : Array Value) (w : World), (Instr.makeFunc fn first cap).run Try.prog w = .ok (.func fn first cap) w := fun _ _ _ _ => rfl
  go_enter Try.func55, Try.ntmps55
  go_wp2
  go_ret
  have h1 : Bx (fun _ => False) (w.alloc (.cells #[.slice A l.length c] 22)) w.heap.size 22 (.slice A l.length c) := .of (by simp) (heap_new _ _)
  have h2 : Bx (fun _ => False) ((w.alloc (.cells #[.slice A l.length c] 22)).alloc (.cells #[.int .i64 src] 3)) (w.heap.size + 1) 3 (.int .i64 src) := .of (by simp) (by have := heap_new (w.alloc (.cells #[.slice A l.length c] 22)) (.cells #[.int .i64 src] 3); simpa using this)
  have h3 : Bx (fun _ => False) (((w.alloc (.cells #[.slice A l.length c] 22)).alloc (.cells #[.int .i64 src] 3)).alloc (.cells #[.bool back] 4)) (w.heap.size + 2) 4 (.bool back) := .of (by simp) (by have := heap_new ((w.alloc (.cells #[.slice A l.length c] 22)).alloc (.cells #[.int .i64 src] 3)) (.cells #[.bool back] 4); simpa using this)
  refine ⟨_, rfl, (((Below.refl _ _).alloc (Nat.le_refl _) _).alloc (by simp) _).alloc (by simp; omega) _, by simp, ?_⟩
  exact of1_iter w0 _ A c l src back hS (((hb.alloc hb.size _).alloc (by simp; have := hb.size; omega) _).alloc (by simp; have := hb.size; omega) _) w.heap.size hb.size ((h1.alloc _).alloc _).cell (h2.alloc _).cell h3.cell (by simp)

theorem heard_any (A : Option Addr) (c : Nat) (l : List Beat) (src q t : Int) (w : World) (hS : Sl bc 2 w A c l) (hr : ∀ x ∈ l, 0 ≤ x.2 ∧ x.2 ≤ 1099511627775) (ht : 0 ≤ t ∧ t ≤ 1099511627775) :
    Calls Try.prog 51 #[.slice A l.length c, .int .i64 src, .int .i64 q, .int .i64 t] w fun e w' => e = .returned (.bool (heardIn (ofL l src true) q t)) ∧ Below w.heap.size w w' := by
  refine (callsIn_wide (n := 9)).1 (callsIn_of_wp_marks Try.func51 rfl trivial ?_ rfl)
  simp only [Try.ntmps51]
  simp only [List.size_toArray, List.length_cons, List.length_nil, Nat.reduceAdd, Nat.reduceSub, Array.replicate_succ, Array.replicate_zero, List.push_toArray, List.append_toArray, List.nil_append, List.cons_append]
  gi_wp2_with fail
  obtain ⟨w2, hw2⟩ : ∃ w2, ((w.alloc (.cells #[.int .i64 q] 3)).alloc (.cells #[.int .i64 t] 3)).alloc (.cells #[.bool false] 4) = w2 := ⟨_, rfl⟩
  have b0 : Bx (fun _ => False) w2 w.heap.size 3 (.int .i64 q) := by rw [← hw2]; exact ((Bx.of (by simp) (heap_new _ _)).alloc _).alloc _
  have b1 : Bx (fun _ => False) w2 (w.heap.size + 1) 3 (.int .i64 t) := by rw [← hw2]; exact Bx.alloc (.of (by simp) (by have := heap_new (w.alloc (.cells #[.int .i64 q] 3)) (.cells #[.int .i64 t] 3); simpa using this)) _
  have b2 : Bx (fun _ => False) w2 (w.heap.size + 1 + 1) 4 (.bool false) := by rw [← hw2]; exact .of (by simp) (by have := heap_new ((w.alloc (.cells #[.int .i64 q] 3)).alloc (.cells #[.int .i64 t] 3)) (.cells #[.bool false] 4); simpa using this)
  have hb2 : Below w.heap.size w w2 := by rw [← hw2]; exact ((((Below.refl _ _).alloc (Nat.le_refl _) _).alloc (by simp) _).alloc (by simp; omega) _)
  have hz2 : w2.heap.size = w.heap.size + 3 := by rw [← hw2]; simp
  rw [hw2]
  clear hw2
  refine (callsIn_wide.2 (of_any w w2 A c l src true hS hb2)).mono ?_
  rintro e w1 ⟨lb, rfl, hb1, hz1, hit⟩
  have hxs : ∀ a ∈ ofL l src true, 0 ≤ a ∧ a ≤ 1099511627775 := by
    intro a ha
    simp only [ofL, dir, if_true, List.mem_map, List.mem_filter, List.mem_reverse] at ha
    obtain ⟨x, ⟨hx, _⟩, rfl⟩ := ha
    exact hr x hx
  gi_wp2
  refine wpIn_range (gf := 70) (lb := lb) rfl (enters_of Try.func70 (by kernel_rfl) rfl) hit (Nat.le_refl _) (fun b hb => ⟨by rcases hb with h | h <;> omega, rfl⟩) ?_
    (fun k O W => (∀ b, O b → w.heap.size + 3 ≤ b) ∧ w.heap.size + 3 ≤ W.heap.size ∧ Bx O W w.heap.size 3 (.int .i64 q) ∧ Bx O W (w.heap.size + 1) 3 (.int .i64 t) ∧ Bx O W (w.heap.size + 1 + 1) 4 (.bool false) ∧ Below w.heap.size w W ∧
      ((ofL l src true).drop k).find? (fun a => decide (a ≤ t)) = (ofL l src true).find? (fun a => decide (a ≤ t)))
    (fun c O W => c = .ret ∧ (∀ b, O b → w.heap.size + 3 ≤ b) ∧ w.heap.size + 3 ≤ W.heap.size ∧ Bx O W (w.heap.size + 1 + 1) 4 (.bool (heardIn (ofL l src true) q t)) ∧ Below w.heap.size w W)
    ?_ ?_ ?_ (fun x => { tmps := #[.slice A l.length c, .int .i64 src, .int .i64 q, .int .i64 t, undef, undef, .pointer (some ⟨w.heap.size, 0, none⟩), .pointer (some ⟨w.heap.size + 1, 0, none⟩), .pointer (some ⟨w.heap.size + 1 + 1, 0, none⟩), x.getD 0 undef, .slice A l.length c, .int .i64 src, .func (.func 70) #[] lb, x.getD 0 undef, undef, undef, undef, undef, undef, undef, undef, undef], defers := [] }) ?assign ?body ?done ?stop
  · intro x hx; simp at hx; obtain ⟨y, _, rfl⟩ := hx; rfl
  · rintro k O O' W W' ⟨h1, h2, h3, h4, h5, h6, h7⟩ st
    exact ⟨fun b hb => by rcases (st.owns b).1 hb with h | h; exact h1 b h; omega, Nat.le_trans h2 st.size, h3.step st, h4.step st, h5.step st, st.below h6 (by omega) (fun b hb => by have := h1 b hb; omega), h7⟩
  · rintro k O O' W W' ⟨h0, h1, h2, h5, h6⟩ st
    exact ⟨h0, fun b hb => by rcases (st.owns b).1 hb with h | h; exact h1 b h; omega, Nat.le_trans h2 st.size, h5.step st, st.below h6 (by omega) (fun b hb => by have := h1 b hb; omega)⟩
  · exact ⟨fun b hb => hb.elim, by omega, b0.bel (by rw [hz2]; exact hb1.mono (by omega)), b1.bel (by rw [hz2]; exact hb1.mono (by omega)), b2.bel (by rw [hz2]; exact hb1.mono (by omega)), hb2.trans (hb1.mono (by omega)), rfl⟩
  case assign =>
    intro lp x W K hx hK
    simp at hx; obtain ⟨y, _, rfl⟩ := hx
    gi_wp2
    exact hK
  case body =>
    rintro lp k x O W hx ⟨h1, h2, h3, h4, h5, h6, h7⟩ hO hz
    rw [List.getElem?_map] at hx
    obtain ⟨a, hxa, rfl⟩ := Option.map_eq_some_iff.1 hx
    obtain ⟨ha1, ha2⟩ := hxs a (List.mem_of_getElem? hxa)
    obtain ⟨ht1, ht2⟩ := ht
    have hdr : (ofL l src true).drop k = a :: (ofL l src true).drop (k + 1) := by
      obtain ⟨hlt, rfl⟩ := List.getElem?_eq_some_iff.1 hxa
      exact List.drop_eq_getElem_cons hlt
    rw [hdr, List.find?_cons] at h7
    have c3 := h3.cell
    have c4 := h4.cell
    have c5 := h5.cell
    have f5 := h5.frozen
    have hlt5 := h5.lt
    clear hx hdr hxs hr hxa hit
    by_cases hat : a ≤ t
    · simp only [hat, decide_true] at h7
      have H7 := hide h7
      have H1 := hide h1
      have HO := hide hO
      clear h7 h1 hO
      gi_wp2
      have he : heardIn (ofL l src true) q t = decide (t - a < q) := by unfold heardIn; rw [← H7.out]
      exact ⟨(Kept.refl _ _).setCell _ (by rintro (h | h); exact h5.no h; dsimp only at h; omega), rfl, H1.out, by simp [World.setCell]; omega, by rw [he]; exact h5.set _, h6.setCell (by dsimp only; omega) _⟩
    · simp only [hat, decide_false] at h7
      have H7 := hide h7
      have H1 := hide h1
      have HO := hide hO
      clear h7 h1 hO
      gi_wp2
      exact ⟨Kept.refl _ _, H1.out, h2, h3, h4, h5, h6, H7.out⟩
  case done =>
    rintro O W ⟨h1, h2, h3, h4, h5, h6, h7⟩ hO hD hOD hz
    rw [List.length_map, List.drop_length] at h7
    have c5 := h5.cell
    have f5 := h5.frozen
    have he : heardIn (ofL l src true) q t = false := by unfold heardIn; rw [← h7]; rfl
    have H7 := hide h7
    clear h7 hxs hr hit
    gi_wp2
    have g := (h5.set (.bool false)).put (D := w1.heap.size) (.deferred none) (by omega)
    have c6 := g.cell
    refine leaves_mark1 (v := .bool false) (set_other hD (by dsimp only; omega)) (by simp [results, Try.results51, go_sem, c6]) ⟨by rw [he], below_put (h6.setCell (by dsimp only; omega) _) _ (by omega)⟩
  case stop =>
    rintro c O W ⟨rfl, h1, h2, h5, h6⟩ hO hD hOD hz
    gi_wp2
    have g := h5.put (D := w1.heap.size) (.deferred none) (by omega)
    have c6 := g.cell
    exact leaves_mark1 (v := .bool (heardIn (ofL l src true) q t)) hD (by simp [results, Try.results51, go_sem, c6]) ⟨rfl, below_put h6 _ (by omega)⟩

end Go.Proofs.Ytbfgbkblblnbhaa

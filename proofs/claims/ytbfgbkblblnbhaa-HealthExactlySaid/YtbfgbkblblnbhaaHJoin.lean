/-
  health.joined at the closure of Spans.
-/
import Derived.Test.YtbfgbkblblnbhaaHChk
import Derived.Test.YtbfgbkblblnbhaaStillIn
namespace Go.Proofs.Ytbfgbkblblnbhaa
open Go.RowKit Go.Mine Go.Mine.H

/-- 'last.Until' is turned where the next span touches it. -/
theorem touch_any (g o : Nat) (cur : Array Value) (e : TypeId) (a b u : Int) (w : World) (hh : w.heap[g]? = some (.cells cur e (0, 0))) (hu : cur[o + 1]? = some (.int .i64 u)) :
    Calls Try.prog 57 #[.pointer (some ⟨g, o, none⟩), .agg #[.int .i64 a, .int .i64 b]] w fun en w' => en = .returned (.bool (decide (a ≤ u))) ∧ w.grownBy w' (some g) ∧
      w'.heap[g]? = some (.cells (if a ≤ u then cur.setIfInBounds (o + 1) (.int .i64 b) else cur) e (0, 0)) := by
  have hg : g < w.heap.size := (Array.getElem?_eq_some_iff.1 hh).1
  have hc : w.cell? ⟨g, o + 1, none⟩ = some (.int .i64 u) := by simp [World.cell?, hh, hu]
  have hf : w.frozen? ⟨g, o + 1, none⟩ = false := by simp [World.frozen?, hh]
  have HH := hide hh
  have HU := hide hu
  clear hh hu
  by_cases h : a ≤ u
  · have hd : decide (a ≤ u) = true := by simp [h]
    go_enter Try.func57, Try.ntmps57
    go_wp2
    refine wp_still_all (by kernel_rfl) (by kernel_rfl) ?_
    repeat ((with_reducible refine wpStill_step (fun K hK => ?_)); go_simp; (try go_bits); (with_reducible refine hK _ ?_); clear hK K)
    (with_reducible refine wpStill_nil ?_)
    go_wp2
    go_ret
    exact ⟨rfl, gb_drew (gb_alloc (gb_set (World.grownBy.refl w _) (.inl rfl) _) _), heap_alloc_at (heap_set_at HH.out _) _⟩
  · have hd : decide (a ≤ u) = false := by simp; omega
    go_enter Try.func57, Try.ntmps57
    go_wp2
    refine wp_still_all (by kernel_rfl) (by kernel_rfl) ?_
    repeat ((with_reducible refine wpStill_step (fun K hK => ?_)); go_simp; (try go_bits); (with_reducible refine hK _ ?_); clear hK K)
    (with_reducible refine wpStill_nil ?_)
    go_wp2
    go_ret
    exact ⟨ret_bool (by simp [h]), gb_drew (gb_alloc (World.grownBy.refl w _) _), heap_alloc_at HH.out _⟩

theorem Try_info62 : (Try.prog.info? 62).map (fun i => (i.zero, i.size, i.bytes)) = some (some (.agg #[.int .i64 0, .int .i64 0]), 2, 16) := by kernel_rfl

theorem last_split (ls : List (Int × Int)) (h : ls ≠ []) : ∃ l' y, ls = l' ++ [y] := by
  rcases List.eq_nil_or_concat ls with rfl | ⟨l', y, rfl⟩
  · exact absurd rfl h
  · exact ⟨l', y, by simp⟩

set_option maxHeartbeats 1000000 in
theorem joined_any (base : Nat) (v : Value) (ls : List (Int × Int)) (a b : Int) (w : World) (hO : OwnL bc 2 62 w base v ls) (hbase : base ≤ w.heap.size) (hlen : ls.length < 8000) :
    Calls Try.prog 56 #[v, .agg #[.int .i64 a, .int .i64 b], .func (.func 57) #[] #[]] w fun en w' => ∃ v', en = .returned v' ∧ OwnL bc 2 62 w' base v' (joinL ls (a, b)) ∧ w.grownBy w' v.ownBlock ∧ (∀ g, v'.ownBlock = some g → v.ownBlock = some g ∨ w.heap.size ≤ g) := by
  obtain ⟨⟨hl, h1⟩, hs⟩ := hO
  obtain ⟨i0, hi, hz0, hz1, hz2⟩ := info_parts Try_info62
  rcases h1 with ⟨rfl, hn⟩ | ⟨g, cap, cur, rfl, hg, hh, hn, hc, hz, ht⟩
  · obtain rfl : ls = [] := List.length_eq_zero_iff.1 hn
    have hO : OwnL bc 2 62 w base (.slice none 0 0) ([] : List (Int × Int)) := OwnL.nil _ _ _ _ _
    have HO := hide hO
    have HI := hide hi
    clear hl hs hn hlen hi hO
    go_enter Try.func56, Try.ntmps56
    go_wp2_with fail
    refine wp_still_tail 9 (by kernel_rfl) (by kernel_rfl) ?_
    simp only [List.take_succ_cons, List.take_zero, List.drop_succ_cons, List.drop_zero]
    repeat ((with_reducible refine wpStill_step (fun K hK => ?_)); go_simp; (try go_bits); (with_reducible refine hK _ ?_); clear hK K)
    (with_reducible refine wpStill_nil ?_)
    go_wp2_with (at_builtin; refine wpList_append_own_at _ rfl (.tmp 22) (.tmp 24) 30 rfl base 62 i0 _ 2 16 Try.underlying30 HI.out hz0 hz1 hz2 rfl (by decide) _ 0 _ rfl ((HO.out.alloc _).alloc _).drew.1 ⟨w.heap.size + 1, 0, none⟩ 1 1 [.int .i64 a, .int .i64 b] rfl rfl ?_ ?_ ?_ ?_ ?_ ?_)
    · exact row_cells (new_row1 w _ _) _ rfl
    · simp [Value.oneCell']
    · simp [maxLen]
    · omega
    · simp; omega
    · intro v' w1 hown' hgrow _ hat
      go_wp2
      go_ret
      exact ⟨v', rfl, ⟨hown', by simp [joinL, bc]⟩, gb_trans (gb_drew (gb_alloc (gb_alloc (World.grownBy.refl w _) _) _)) hgrow, fun g hg => by rcases hat with h | h <;> rw [h] at hg; exact .inl hg; simp at hg; omega⟩
  · have HI := hide hi
    have HO := hide (show OwnL bc 2 62 w base (.slice (some ⟨g, 0, none⟩) ls.length cap) ls from ⟨⟨hl, .inr ⟨g, cap, cur, rfl, hg, hh, hn, hc, hz, ht⟩⟩, hs⟩)
    have hgw : g < w.heap.size := (Array.getElem?_eq_some_iff.1 hh).1
    by_cases hne : ls = []
    · subst hne
      simp only [List.length_nil] at HO
      clear hl hs hn hlen hi hh hz ht
      go_enter Try.func56, Try.ntmps56
      go_wp2_with fail
      refine wp_still_tail 9 (by kernel_rfl) (by kernel_rfl) ?_
      simp only [List.take_succ_cons, List.take_zero, List.drop_succ_cons, List.drop_zero]
      repeat ((with_reducible refine wpStill_step (fun K hK => ?_)); go_simp; (try go_bits); (with_reducible refine hK _ ?_); clear hK K)
      (with_reducible refine wpStill_nil ?_)
      go_wp2_with (at_builtin; refine wpList_append_own_at _ rfl (.tmp 22) (.tmp 24) 30 rfl base 62 i0 _ 2 16 Try.underlying30 HI.out hz0 hz1 hz2 rfl (by decide) _ 0 _ rfl ((HO.out.alloc _).alloc _).drew.1 ⟨w.heap.size + 1, 0, none⟩ 1 1 [.int .i64 a, .int .i64 b] rfl rfl ?_ ?_ ?_ ?_ ?_ ?_)
      · exact row_cells (new_row1 w _ _) _ rfl
      · simp [Value.oneCell']
      · simp [maxLen]
      · omega
      · simp; omega
      · intro v' w1 hown' hgrow _ hat
        go_wp2
        go_ret
        exact ⟨v', rfl, ⟨hown', by simp [joinL, bc]⟩, gb_trans (gb_drew (gb_alloc (gb_alloc (World.grownBy.refl w _) _) _)) hgrow, fun g hg => by rcases hat with h | h <;> rw [h] at hg; exact .inl hg; simp at hg; omega⟩
    · obtain ⟨l', y, rfl⟩ := last_split ls hne
      have hcz : cur.toList.take ((l'.length + 1) * 2) = l'.flatMap bc ++ bc y := by rw [show (l'.length + 1) * 2 = (l' ++ [y]).length * 2 by simp, ht]; simp
      have hfl : (l'.flatMap bc).length = l'.length * 2 := flat_length bc 2 l' (fun x hx => hs x (by simp [hx]))
      have hu : cur[l'.length * 2 + 1]? = some (.int .i64 y.2) := by
        rw [← Array.getElem?_toList, ← List.getElem?_take_of_lt (show l'.length * 2 + 1 < (l'.length + 1) * 2 by omega), hcz, List.getElem?_append_right (by omega), hfl]
        simp [bc]
      have HH := hide hh
      have HU := hide hu
      have HC := hide hcz
      have HF := hide hfl
      have HS := hide hs
      simp only [List.length_append, List.length_cons, List.length_nil, Nat.zero_add] at HO hn hlen ⊢
      have hcap : cap ≤ 9223372036854775807 := hc
      have HZ := hide hz
      have hl1 : (l'.length : Int) < (l'.length : Int) + 1 := by omega
      clear hl hs hi hh hz ht hne hcz hfl hu hc
      go_enter Try.func56, Try.ntmps56
      go_wp2_with fail
      refine wp_still_tail 9 (by kernel_rfl) (by kernel_rfl) ?_
      simp only [List.take_succ_cons, List.take_zero, List.drop_succ_cons, List.drop_zero]
      repeat ((with_reducible refine wpStill_step (fun K hK => ?_)); go_simp; (try go_bits); (with_reducible refine hK _ ?_); clear hK K)
      (with_reducible refine wpStill_nil ?_)
      go_wp2_with fail
      refine (touch_any g (l'.length * 2) cur 62 a b y.2 _ (by exact heap_alloc_at HH.out _) HU.out).mono ?_
      rintro en w1 ⟨rfl, hg1, hh1⟩
      by_cases htc : a ≤ y.2
      · rw [if_pos htc] at hh1
        have g1 : decide (a ≤ y.2) = true := by simp [htc]
        have HH1 := hide hh1
        clear hh1
        go_wp2
        go_ret
        refine ⟨_, rfl, ?_, gb_trans (gb_drew (gb_alloc (World.grownBy.refl w _) _)) hg1, fun g hg => .inl hg⟩
        have e1 : joinL (l' ++ [y]) (a, b) = l' ++ [(y.1, b)] := by rw [joinL_snoc, if_pos htc]
        have HS2 := HS.out
        rw [e1]
        refine ⟨⟨by simp [HF.out, bc]; omega, .inr ⟨g, cap, _, by simp, hg, HH1.out, by simp; omega, by simpa [maxLen] using hcap, by simp [HZ.out], ?_⟩⟩, ?_⟩
        · have hz' := HZ.out
          have hl2 : (l' ++ [(y.1, b)]).length * 2 = (l'.length + 1) * 2 := by simp
          rw [hl2, Array.toList_setIfInBounds, List.take_set, HC.out, List.set_append_right _ _ (by rw [HF.out]; omega), HF.out]
          simp [bc]
        · intro x hx
          rcases List.mem_append.1 hx with hx | hx
          · exact HS2 x (by simp [hx])
          · simp at hx; subst hx; rfl
      · rw [if_neg htc] at hh1
        have g1 : decide (a ≤ y.2) = false := by simp; omega
        have hx : Bx (fun _ => False) w1 w.heap.size 62 (.int .i64 a) ∨ w1.heap[w.heap.size]? = some (.cells #[.int .i64 a, .int .i64 b] 62 (0, 0)) := .inr ((hg1.block w.heap.size (by simp) (by simp; omega)).trans (by exact heap_new _ _))
        have hx1 := hx.resolve_left (fun h => by have := h.at_; rw [(hg1.block w.heap.size (by simp) (by simp; omega)).trans (by exact heap_new w (.cells #[.int .i64 a, .int .i64 b] 62))] at this; simp at this)
        have k1 : w1.cell? ⟨w.heap.size, 0, none⟩ = some (.int .i64 a) := by simp [World.cell?, hx1]
        have k2 : w1.cell? ⟨w.heap.size, 1, none⟩ = some (.int .i64 b) := by simp [World.cell?, hx1]
        have hz1' : w.heap.size + 1 ≤ w1.heap.size := by have := hg1.size; simpa using this
        have hO1 : OwnL bc 2 62 w1 base (.slice (some ⟨g, 0, none⟩) (l'.length + 1) cap) (l' ++ [y]) := HO.out.keep (fun q hq => by
          simp [Value.ownBlock] at hq; subst hq; rw [hh1, HH.out])
        have HO1 := hide (show w1.ownsRow base 62 2 (.slice (some ⟨g, 0, none⟩) (l'.length + 1) cap) (l'.length + 1) ((l' ++ [y]).flatMap bc) by have := hO1.1; rwa [List.length_append, List.length_cons, List.length_nil, Nat.zero_add] at this)
        clear hh1 hx hx1 hO1
        go_wp2_with (at_builtin; refine wpList_append_own_at _ rfl (.tmp 22) (.tmp 24) 30 rfl base 62 i0 _ 2 16 Try.underlying30 HI.out hz0 hz1 hz2 rfl (by decide) _ (l'.length + 1) _ rfl (HO1.out.alloc _) ⟨w1.heap.size, 0, none⟩ 1 1 [.int .i64 a, .int .i64 b] rfl rfl ?_ ?_ ?_ ?_ ?_ ?_)
        · exact row_cells (heap_new w1 _) _ rfl
        · simp [Value.oneCell']
        · simp [maxLen]; omega
        · omega
        · simp; omega
        · intro v' w2 hown' hgrow _ hat
          go_wp2
          go_ret
          have e1 : joinL (l' ++ [y]) (a, b) = (l' ++ [y]) ++ [(a, b)] := by rw [joinL_snoc, if_neg (by dsimp only; omega)]
          refine ⟨v', rfl, ?_, gb_trans (gb_trans (gb_drew (gb_alloc (World.grownBy.refl w _) _)) (gb_alloc hg1 _)) hgrow, fun g hg => by rcases hat with h | h <;> rw [h] at hg; exact .inl hg; simp at hg; omega⟩
          rw [e1]
          exact ⟨by simpa [bc] using hown', by
            intro x hx
            rcases List.mem_append.1 hx with hx | hx
            · exact HS.out x hx
            · simp at hx; subst hx; rfl⟩
end Go.Proofs.Ytbfgbkblblnbhaa

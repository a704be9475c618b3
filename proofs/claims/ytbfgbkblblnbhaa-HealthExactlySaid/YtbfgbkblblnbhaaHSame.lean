/-
  Layer 24: the reference's SameSpans, SameBools; Voters on its other ways.
-/
import Derived.Test.YtbfgbkblblnbhaaHVoters
namespace Go.Proofs.Ytbfgbkblblnbhaa
open Go.RowKit Go.Shelf Go.Mine Go.Mine.H

set_option maxHeartbeats 1000000 in
theorem sameSpans_any (A B : Option Addr) (c d : Nat) (la lb : List (Int × Int)) (w : World) (hA : Sl bc 2 w A c la) (hB : Sl bc 2 w B d lb) :
    Calls Try.prog 25 #[.slice A la.length c, .slice B lb.length d] w fun e w' => e = .returned (.bool (decide (la = lb))) ∧ Below w.heap.size w w' := by
  have a1 := hA.le
  have a2 := hA.max
  have b1 := hB.le
  have b2 := hB.max
  by_cases hl : la.length = lb.length
  · have g1 : ((la.length : Int) != (lb.length : Int)) = false := by simp [hl]
    have HL := hide hl
    clear hl
    go_enter Try.func25, Try.ntmps25
    go_wp2
    go_loopw [5] (fun i wr => ∃ (k : Nat), k ≤ la.length ∧ i = .int .i64 k ∧ la.take k = lb.take k ∧ Below w.heap.size w wr) (fun i _ => la.length - (intOf i).toNat)
    case atStart => exact ⟨0, Nat.zero_le _, rfl, rfl, Below.refl _ _⟩
    case round =>
      obtain ⟨k, hk, rfl, ht, hb⟩ := hrel
      by_cases hlt : k < la.length
      · obtain ⟨x, ba, oa, hx, _, rfl, _, p1, p2⟩ := Sl.two hA hb hlt
        obtain ⟨y, bb, ob, hy, _, rfl, _, q1, q2⟩ := Sl.two hB hb (show k < lb.length by rw [← HL.out]; exact hlt)
        have hkb : (k : Int) < lb.length := by have := HL.out; omega
        have HT := hide ht
        have HX := hide hx
        have HY := hide hy
        clear ht hx hy hA hB
        by_cases hxy : x = y
        · subst hxy
          go_wp2_with fail
          refine wp_still_all (by kernel_rfl) (by kernel_rfl) ?_
          repeat ((with_reducible refine wpStill_step (fun K hK => ?_)); go_simp; (try go_bits); (with_reducible refine hK _ ?_); clear hK K)
          (with_reducible refine wpStill_nil ?_)
          go_wp2
          go_roundw
          case rel => exact ⟨k + 1, by omega, by go_num, by rw [take_of_get HX.out, take_of_get HY.out, HT.out], hb.drew⟩
          case measure => simp [intOf]; omega
        · have hne : la ≠ lb := by
            intro e; subst e
            have := HX.out.symm.trans HY.out
            exact hxy (by simpa using this)
          have hn : ¬ (x.1 = y.1 ∧ x.2 = y.2) := fun h => hxy (Prod.ext h.1 h.2)
          have HN := hide hne
          obtain ⟨x1, x2⟩ := x
          obtain ⟨y1, y2⟩ := y
          dsimp only at p1 p2 q1 q2 hn
          clear hxy hne
          by_cases h1 : x1 = y1
          · subst h1
            have h2 : ¬ x2 = y2 := fun h => hn ⟨rfl, h⟩
            clear hn
            go_wp2_with fail
            refine wp_still_all (by kernel_rfl) (by kernel_rfl) ?_
            repeat ((with_reducible refine wpStill_step (fun K hK => ?_)); go_simp; (try go_bits); (with_reducible refine hK _ ?_); clear hK K)
            (with_reducible refine wpStill_nil ?_)
            go_wp2
            go_ret
            exact ⟨ret_bool (by simp [HN.out]), hb.drew⟩
          · clear hn
            go_wp2_with fail
            refine wp_still_all (by kernel_rfl) (by kernel_rfl) ?_
            repeat ((with_reducible refine wpStill_step (fun K hK => ?_)); go_simp; (try go_bits); (with_reducible refine hK _ ?_); clear hK K)
            (with_reducible refine wpStill_nil ?_)
            go_wp2
            go_ret
            exact ⟨ret_bool (by simp [HN.out]), hb.drew⟩
      · have HT := hide ht
        clear ht
        go_wp2
        go_ret
        refine ⟨ret_bool ?_, hb⟩
        have h := HT.out
        rw [List.take_of_length_le (by omega), List.take_of_length_le (by have := HL.out; omega)] at h
        simp [h]
  · have g1 : ((la.length : Int) != (lb.length : Int)) = true := by rw [bne_iff_ne]; omega
    go_enter Try.func25, Try.ntmps25
    go_wp2
    go_ret
    exact ⟨ret_bool (by simp; intro e; exact hl (by rw [e])), Below.refl _ _⟩
end Go.Proofs.Ytbfgbkblblnbhaa

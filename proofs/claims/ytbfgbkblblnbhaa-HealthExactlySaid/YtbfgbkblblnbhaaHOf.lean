/-
  health.of and its iterator.
-/
import Derived.Test.YtbfgbkblblnbhaaRows
import Derived.Test.YtbfgbkblblnbhaaHPure
import Derived.Test.YtbfgbkblblnbhaaStillIn
import Derived.Shelf.Abstract
import Derived.Shelf.RegionOpen
import Derived.TacticsInMore
import Derived.LoopNIn
import Derived.LoopIn
namespace Go.Proofs.Ytbfgbkblblnbhaa
open Go.RowKit Go.Shelf Go.Mine Go.Mine.H
attribute [local go_sem] Oper.semAt_some

set_option maxHeartbeats 1000000 in
theorem of1_iter (w0 w1 : World) (A : Option Addr) (c : Nat) (l : List Beat) (src : Int) (back : Bool) (hS : Sl bc 2 w0 A c l) (hb : Below w0.heap.size w0 w1)
    (B : Nat) (hB : w0.heap.size ≤ B) (c0 : w1.cell? ⟨B, 0, none⟩ = some (.slice A l.length c)) (c1 : w1.cell? ⟨B + 1, 0, none⟩ = some (.int .i64 src)) (c2 : w1.cell? ⟨B + 2, 0, none⟩ = some (.bool back)) (hB3 : B + 3 ≤ w1.heap.size) :
    Iter Try.prog 70 #[.pointer (some ⟨B, 0, none⟩), .pointer (some ⟨B + 2, 0, none⟩), .pointer (some ⟨B + 1, 0, none⟩)] ((ofL l src back).map fun t => #[.int .i64 t])
      (fun b => b < w0.heap.size ∨ (B ≤ b ∧ b < B + 3)) w1 := by
  intro n lp J Jx W hw hR hJ hJx hY h0
  have hmax := hS.max
  have hle := hS.le
  refine callsIn_of_wp Try.func70 rfl trivial ?_ rfl
  simp only [Try.ntmps70, List.size_toArray, List.length_cons, List.length_nil, Nat.reduceAdd, Nat.reduceSub, Array.replicate_succ, Array.replicate_zero, List.push_toArray, List.append_toArray, List.nil_append, List.cons_append]
  have d0 : W.cell? ⟨B, 0, none⟩ = some (.slice A l.length c) := (World.cell?_of_block (a := ⟨B, 0, none⟩) (hR B (.inr (by omega))).2).trans c0
  gi_wp2
  gi_loopw [8] (fun i wr => ∃ (k : Nat) (O : Nat → Prop), i = .int .i64 k ∧ k ≤ l.length ∧ J (ofN l src back k) O wr ∧ (∀ b, O b → W.heap.size ≤ b ∧ b < wr.heap.size) ∧ W.heap.size ≤ wr.heap.size ∧
      (∀ b, (b < w0.heap.size ∨ (B ≤ b ∧ b < B + 3)) → wr.heap[b]? = W.heap[b]?)) (fun i _ => l.length - (intOf i).toNat)
  case atStart => exact ⟨0, _, rfl, Nat.zero_le _, h0, fun _ h => h.elim, Nat.le_refl _, fun _ _ => rfl⟩
  case round =>
    obtain ⟨k, O, rfl, hk, hj, hO, hz, hkeep⟩ := hrel
    by_cases hlt : k < l.length
    · have hHeap : ∀ b, (b < w0.heap.size ∨ (B ≤ b ∧ b < B + 3)) → wr.heap[b]? = w1.heap[b]? := fun b h => (hkeep b h).trans (hR b h).2
      have e0 : wr.cell? ⟨B, 0, none⟩ = some (.slice A l.length c) := (World.cell?_of_block (a := ⟨B, 0, none⟩) (hHeap B (.inr (by omega)))).trans c0
      have e1 : wr.cell? ⟨B + 1, 0, none⟩ = some (.int .i64 src) := (World.cell?_of_block (a := ⟨B + 1, 0, none⟩) (hHeap (B + 1) (.inr (by omega)))).trans c1
      have e2 : wr.cell? ⟨B + 2, 0, none⟩ = some (.bool back) := (World.cell?_of_block (a := ⟨B + 2, 0, none⟩) (hHeap (B + 2) (.inr (by omega)))).trans c2
      have hi : idx back l.length k < l.length := by unfold idx; split <;> omega
      obtain ⟨x, b, off, hx, _, rfl, hbw, hcx⟩ := hS.at_ hi
      rw [← dir_get back l k hlt] at hx
      have f1 : wr.cell? ⟨b, off + (idx back l.length k) * 2, none⟩ = some (.int .i64 x.1) := (World.cell?_of_block (a := ⟨b, off + (idx back l.length k) * 2, none⟩) ((hHeap b (.inl hbw)).trans (hb.block b hbw))).trans (hcx 0 _ rfl)
      have f2 : wr.cell? ⟨b, off + (idx back l.length k) * 2 + 1, none⟩ = some (.int .i64 x.2) := (World.cell?_of_block (a := ⟨b, off + (idx back l.length k) * 2 + 1, none⟩) ((hHeap b (.inl hbw)).trans (hb.block b hbw))).trans (hcx 1 _ rfl)
      clear c0 c1 c2 hcx d0
      have hs := ofN_succ l src back k x hx
      have hJd := hJ _ _ _ _ _ hj (IStep.refl O wr).drew
      cases back
      all_goals
        simp only [idx, Bool.false_eq_true, if_false, if_true] at f1 f2 hi
        by_cases hp : bySrc src x = true
        · have hY' := hY _ _ O wr.drew (by rw [List.getElem?_map, ofN_get l src _ k x hx hp]; rfl) hJd hO hz
          obtain ⟨fn, tmps, assign, body, hy, hRR⟩ := hY'
          have ht : (x.1 == src) = true := hp
          rw [if_pos hp] at hs
          have Hs := hide hs
          have Hx := hide hx
          have HY := hide @hY
          have HO := hide hO
          have Hk := hide hkeep
          clear hY hs hx hR hkeep hHeap hO
          gi_wp2
          refine wpIn_region_still_tail (ro := none) 14 (by kernel_rfl) (by kernel_rfl) ?_
          simp only [List.take_succ_cons, List.take_zero, List.drop_succ_cons, List.drop_zero]
          have i1 : (k : Int) ≤ (l.length : Int) - 1 := by omega
          have i2 : (l.length : Int) - 1 - k < l.length := by omega
          repeat ((with_reducible refine wpStill_step (fun K hK => ?_)); go_simp; (try go_bits); (with_reducible refine hK _ ?_); clear hK K)
          (with_reducible refine wpStill_nil ?_)
          gi_wp2
          refine hRR.mono ?_
          rintro e W' ⟨hK, (⟨rfl, hj'⟩ | ⟨rfl, hjx⟩)⟩
          · gi_wp2
            go_roundw
            case rel =>
              refine ⟨k + 1, O, by go_num, by omega, by rw [Hs.out]; exact hj', fun b hb => ?_, Nat.le_trans hz hK.size, fun b hb => ?_⟩
              · have := HO.out b hb; have := hK.size; simp at this; omega
              · exact (hK.keep b (by have := hw; simp; omega) (.inr hb)).trans (Hk.out b hb)
            case measure => simp [intOf]; omega
          · gi_wp2
            refine bodyPost_ret (results_none rfl _ _ _) rfl ?_
            exact ⟨⟨_, rfl⟩, O, fun b hb => by have := HO.out b hb; have := hK.size; simp at this; omega, Nat.le_trans hz hK.size, .inr hjx⟩
        · have ht : (x.1 == src) = false := by simpa [bySrc] using hp
          rw [if_neg hp] at hs
          have Hs := hide hs
          have Hx := hide hx
          have HY := hide @hY
          have HO := hide hO
          have Hk := hide hkeep
          clear hY hs hx hR hkeep hHeap hO
          gi_wp2
          refine wpIn_region_still_tail (ro := none) 14 (by kernel_rfl) (by kernel_rfl) ?_
          simp only [List.take_succ_cons, List.take_zero, List.drop_succ_cons, List.drop_zero]
          have i1 : (k : Int) ≤ (l.length : Int) - 1 := by omega
          have i2 : (l.length : Int) - 1 - k < l.length := by omega
          repeat ((with_reducible refine wpStill_step (fun K hK => ?_)); go_simp; (try go_bits); (with_reducible refine hK _ ?_); clear hK K)
          (with_reducible refine wpStill_nil ?_)
          gi_wp2
          go_roundw
          case rel => exact ⟨k + 1, O, by go_num, by omega, by rw [Hs.out]; exact hJd, HO.out, hz, Hk.out⟩
          case measure => simp [intOf]; omega
    · gi_wp2
      go_end0
      have : k = l.length := by omega
      subst this
      exact ⟨⟨_, rfl⟩, O, hO, hz, .inl (by rw [List.length_map, ← ofN_all]; exact hj)⟩
end Go.Proofs.Ytbfgbkblblnbhaa

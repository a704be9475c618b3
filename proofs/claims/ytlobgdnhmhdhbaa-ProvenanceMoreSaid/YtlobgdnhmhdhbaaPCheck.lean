/-
  provenance.below, Check; the reference's Below.
-/
import Derived.Test.YtlobgdnhmhdhbaaRows
import Derived.Test.YtlobgdnhmhdhbaaPKeys
import Derived.Test.YtlobgdnhmhdhbaaStillIn
import Derived.Test.YtlobgdnhmhdhbaaBase2
import Derived.Shelf.Abstract
import Derived.Shelf.RegionOpen
import Derived.TacticsInMore
import Derived.LoopNIn
import Derived.LoopIn
namespace Go.Proofs.Ytlobgdnhmhdhbaa
open Go.RowKit Go.Shelf Go.Mine

set_option maxHeartbeats 1000000 in
theorem below27_any (A : Option Addr) (c : Nat) (l : List Int) (m : Int) (w : World) (hS : Sl ic 1 w A c l) :
    Calls Try.prog 27 #[.slice A l.length c, .int .i64 m] w fun e w' => e = .returned (.bool (P.below l m)) ∧ w = w' := by
  have hlc := hS.le
  have hc := hS.max
  go_enter Try.func27, Try.ntmps27
  go_wp2
  go_loop [5, 10] (fun z i => ∃ (k : Nat) (last : Int), k ≤ l.length ∧ i = .int .i64 k ∧ z = .int .i64 last ∧ P.below l m = P.belowGo m last (l.drop k)) (fun _ i => l.length - (nI i).toNat)
  case atStart => exact ⟨0, -1, Nat.zero_le _, rfl, rfl, rfl⟩
  case round =>
    obtain ⟨k, last, hk, rfl, rfl, hq⟩ := hrel
    by_cases hlt : k < l.length
    · obtain ⟨x, b, off, hx, hdr, rfl, hbw, c1⟩ := Sl.ic_at hS hlt
      rw [hdr, P.belowGo] at hq
      clear hdr hx
      cases g1 : decide (x ≤ last)
      · have g1' : decide (last < x) = true := by simp at g1 ⊢; omega
        cases g2 : decide (m ≤ x)
        · have g2' : decide (x < m) = true := by simp at g2 ⊢; omega
          rw [g1', g2', Bool.true_and, Bool.true_and] at hq
          have H := hide hq
          clear hq g1' g2'
          go_wp2
          go_round
          case rel => exact ⟨k + 1, x, by omega, by go_num, rfl, H.out⟩
          case measure => simp [nI]; omega
        · have g2' : decide (x < m) = false := by simp at g2 ⊢; omega
          rw [g1', g2', Bool.and_false, Bool.false_and] at hq
          have H := hide hq
          clear hq g1' g2'
          go_wp2
          go_ret
          exact ⟨ret_bool H.out.symm, rfl⟩
      · have g1' : decide (last < x) = false := by simp at g1 ⊢; omega
        rw [g1', Bool.false_and, Bool.false_and] at hq
        have H := hide hq
        clear hq g1'
        go_wp2
        go_ret
        exact ⟨ret_bool H.out.symm, rfl⟩
    · rw [List.drop_of_length_le (by omega)] at hq
      have H := hide hq
      clear hq
      go_wp2
      go_ret
      exact ⟨ret_bool H.out.symm, rfl⟩
theorem wrong26_any (A : Option Addr) (c : Nat) (l : List Int) (n : Int) (p : Nat) (w : World) (hS : Sl ic 1 w A c l) (hp : Blk w p 3 #[.int .i64 n]) :
    Calls Try.prog 26 #[.slice A l.length c, .pointer (some ⟨p, 0, none⟩)] w fun e w' => e = .returned (.bool (!P.below l n)) ∧ w = w' := by
  have y0 := hp.cell (v := .int .i64 n) 0 rfl
  have z0 := hp.lt
  have K := hide (below27_any A c l n w hS)
  generalize P.below l n = r at K
  clear hp
  go_enter Try.func26, Try.ntmps26
  go_wp2_with fail
  refine (K.out).mono ?_
  rintro e w' ⟨rfl, rfl⟩
  go_wp2
  go_ret
  exact ⟨rfl, rfl⟩
set_option maxHeartbeats 1000000 in
theorem index34_any (A : Option Addr) (c : Nat) (ls : List (List Int)) (n : Int) (p : Nat) (w : World) (hR : Rel w A c ls) (hp : Blk w p 3 #[.int .i64 n]) :
    Calls Try.prog 34 #[.slice A ls.length c, .func (.func 26) #[] #[.pointer (some ⟨p, 0, none⟩)]] w fun e w' => (∃ i : Int, e = .returned (.int .i64 i) ∧ decide (0 ≤ i) = ls.any (fun l => !P.below l n)) ∧ w = w' := by
  have hlc := hR.le
  have hc := hR.max
  have KW := hide (fun A c l hS => wrong26_any A c l n p w hS hp)
  clear hp
  go_enter Try.func34, Try.ntmps34
  go_wp2
  go_loop [8] (fun i => ∃ k : Nat, k ≤ ls.length ∧ i = .int .i64 k ∧ ls.any (fun l => !P.below l n) = (ls.drop k).any (fun l => !P.below l n)) (fun i => ls.length - (nI i).toNat)
  case atStart => exact ⟨0, Nat.zero_le _, rfl, rfl⟩
  case round =>
    obtain ⟨k, hk, rfl, hq⟩ := hrel
    by_cases hlt : k < ls.length
    · obtain ⟨l, b, off, B, d, hx, hdr, rfl, hbw, c1, hS⟩ := hR.at_ hlt
      rw [hdr, List.any_cons] at hq
      have K := hide (KW.out B d l hS)
      have h1 := hS.le
      have h2 := hS.max
      generalize P.below l n = r at K hq
      clear hdr hx hS
      cases r
      · rw [Bool.not_false, Bool.true_or] at hq
        have H := hide hq
        clear hq
        go_wp2_with fail
        refine (K.out).mono ?_
        rintro e w' ⟨rfl, rfl⟩
        go_wp2
        go_ret
        exact ⟨⟨_, rfl, by rw [H.out]; simp⟩, rfl⟩
      · rw [Bool.not_true, Bool.false_or] at hq
        have H := hide hq
        clear hq
        go_wp2_with fail
        refine (K.out).mono ?_
        rintro e w' ⟨rfl, rfl⟩
        go_wp2
        go_round
        case rel => exact ⟨k + 1, by omega, by go_num, H.out⟩
        case measure => simp [nI]; omega
    · rw [List.drop_of_length_le (by omega)] at hq
      have H := hide hq
      clear hq
      go_wp2
      go_ret
      exact ⟨⟨_, rfl, by rw [H.out]; rfl⟩, rfl⟩
theorem contains28_any (A : Option Addr) (c : Nat) (ls : List (List Int)) (n : Int) (p : Nat) (w : World) (hR : Rel w A c ls) (hp : Blk w p 3 #[.int .i64 n]) :
    Calls Try.prog 28 #[.slice A ls.length c, .func (.func 26) #[] #[.pointer (some ⟨p, 0, none⟩)]] w fun e w' => e = .returned (.bool (ls.any (fun l => !P.below l n))) ∧ w = w' := by
  have K := hide (index34_any A c ls n p w hR hp)
  generalize ls.any (fun l => !P.below l n) = r at K
  clear hp hR
  go_enter Try.func28, Try.ntmps28
  go_wp2_with fail
  refine (K.out).mono ?_
  rintro e w' ⟨⟨i, rfl, hi⟩, rfl⟩
  go_wp2
  go_ret
  exact ⟨ret_bool (by first | rfl | exact hi), rfl⟩
theorem any_not {r : List (List Int)} {n : Int} : r.any (fun l => !P.below l n) = !r.all (fun l => P.below l n) := by
  rw [List.all_eq_not_any_not, Bool.not_not]
set_option maxHeartbeats 1000000 in
theorem check13_any (A : Option Addr) (c : Nat) (r : List (List Int)) (n : Int) (w : World) (hR : Rel w A c r) :
    Calls Try.prog 13 #[.slice A r.length c, .int .i64 n] w fun e w' => e = .returned (.int .i64 (P.chk r n)) ∧ Below w.heap.size w w' := by
  have hlc := hR.le
  have hc := hR.max
  by_cases h4 : 4096 < r.length
  · have E := hide (show P.chk r n = 2 by unfold P.chk; rw [if_pos h4])
    have g4 : decide ((4096 : Int) < r.length) = true := by simp; omega
    go_enter Try.func13, Try.ntmps13
    go_wp2
    go_ret
    exact ⟨ret_int E.out.symm, kalloc (Below.refl _ _) _⟩
  · have g4 : decide ((4096 : Int) < r.length) = false := by simp; omega
    by_cases hn : n < 0 ∨ 4096 < n
    · have E := hide (show P.chk r n = 310 by unfold P.chk; rw [if_neg h4, if_pos hn])
      rcases Classical.em (n < 0) with h1 | h1
      · go_enter Try.func13, Try.ntmps13
        go_wp2
        go_ret
        exact ⟨ret_int E.out.symm, kalloc (Below.refl _ _) _⟩
      · have h2 : 4096 < n := by omega
        clear hn
        go_enter Try.func13, Try.ntmps13
        go_wp2
        go_ret
        exact ⟨ret_int E.out.symm, kalloc (Below.refl _ _) _⟩
    · have h1 : ¬ n < 0 := by omega
      have h2 : ¬ 4096 < n := by omega
      have K := hide (contains28_any A c r n w.heap.size _ (hR.alloc (.cells #[.int .i64 n] 3)) (Blk.new w _ 3))
      have E := hide (show P.chk r n = if r.any (fun l => !P.below l n) = true then 310 else 0 by
        unfold P.chk; rw [if_neg h4, if_neg hn, any_not]; cases r.all (fun l => P.below l n) <;> rfl)
      clear hn
      generalize r.any (fun l => !P.below l n) = v at K E
      cases v
      all_goals
        go_enter Try.func13, Try.ntmps13
        go_wp2_with fail
        refine (K.out).mono ?_
        rintro e w' ⟨rfl, rfl⟩
        go_wp2
        go_ret
        exact ⟨ret_int E.out.symm, kalloc (Below.refl _ _) _⟩
end Go.Proofs.Ytlobgdnhmhdhbaa

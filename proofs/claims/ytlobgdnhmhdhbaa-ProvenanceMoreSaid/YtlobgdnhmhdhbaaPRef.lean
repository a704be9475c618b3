/-
  The reference's Below, Check, Has, SameInts, Same, Few.
-/
import Derived.Test.YtlobgdnhmhdhbaaPCheck
import Derived.Test.YtlobgdnhmhdhbaaQuietB
namespace Go.Proofs.Ytlobgdnhmhdhbaa
open Go.RowKit Go.Shelf Go.Mine

def lastI (l : List Int) (k : Nat) : Int := if k = 0 then -1 else (l[k - 1]?).getD (-1)
theorem bl_step {l : List Int} {m : Int} {k : Nat} {x : Int} (hx : l[k]? = some x) (h : P.below l m = P.belowGo m (lastI l k) (l.drop k)) :
    P.below l m = (decide (lastI l k < x) && decide (x < m) && P.belowGo m (lastI l (k + 1)) (l.drop (k + 1))) := by
  have e : lastI l (k + 1) = x := by unfold lastI; rw [if_neg (by omega)]; simp [hx]
  rw [h, drop_of_get hx, e]; rfl
set_option maxHeartbeats 4000000 in
theorem refBelow22_any (A : Option Addr) (c : Nat) (l : List Int) (m : Int) (w : World) (hS : Sl ic 1 w A c l) :
    Calls Try.prog 22 #[.slice A l.length c, .int .i64 m] w fun e w' => e = .returned (.bool (P.below l m)) ∧ Below w.heap.size w w' := by
  have hlc := hS.le
  have hc := hS.max
  go_enter Try.func22, Try.ntmps22
  go_wp2
  go_loopw [5] (fun i wr => ∃ k : Nat, k ≤ l.length ∧ i = .int .i64 k ∧ Below w.heap.size w wr ∧ P.below l m = P.belowGo m (lastI l k) (l.drop k) ∧ (k = 0 ∨ 0 ≤ lastI l k)) (fun i _ => l.length - (nI i).toNat)
  case atStart => exact ⟨0, by omega, rfl, Below.refl _ _, rfl, .inl rfl⟩
  case round =>
    obtain ⟨k, hk, rfl, hb, hq, hl⟩ := hrel
    have hN := hb.size
    by_cases hlt : k < l.length
    · obtain ⟨x, b, off, hx, hdr, rfl, hbw, c1⟩ := Sl.ic_at (hS.bel hb) hlt
      have hst := bl_step hx hq
      have e1 : lastI l (k + 1) = x := by unfold lastI; rw [if_neg (by omega)]; simp [hx]
      have hbr : b < wr.heap.size := hbw
      replace c1 := BW.get hbw c1
      clear hq hdr
      by_cases h1 : x < 0
      · have E := hide (show P.below l m = false by
          rw [hst]
          have : decide (lastI l k < x) = false := by
            rcases hl with rfl | hl
            · simp [lastI]; omega
            · simp; omega
          rw [this]; rfl)
        clear hst hl e1 hx
        go_wp2_with fail
        refine wp_quiet_below (by kernel_rfl) (by kernel_rfl) ?_
        repeat (go_big_quiet_step (fail))
        refine wpQuiet_nil ?_
        rintro _ ⟨z, rfl⟩
        have hz := hb.trans (z.below.mono hN)
        go_wp2
        go_ret
        exact ⟨ret_bool E.out.symm, hz⟩
      · have g1 : decide (x < 0) = false := by simp; omega
        by_cases h2 : m ≤ x
        · have E := hide (show P.below l m = false by
            rw [hst]
            have : decide (x < m) = false := by simp; omega
            rw [this, Bool.and_false]; rfl)
          have g2 : decide (m ≤ x) = true := by simp [h2]
          clear hst hl e1 hx
          go_wp2_with fail
          refine wp_quiet_below (by kernel_rfl) (by kernel_rfl) ?_
          repeat (go_big_quiet_step (fail))
          refine wpQuiet_nil ?_
          rintro _ ⟨z, rfl⟩
          have hz := hb.trans (z.below.mono hN)
          go_wp2
          go_ret
          exact ⟨ret_bool E.out.symm, hz⟩
        · have g2 : decide (m ≤ x) = false := by simp; omega
          have h3 : decide (x < m) = true := by simp; omega
          rw [h3, Bool.and_true] at hst
          rcases Nat.eq_zero_or_pos k with rfl | hpos
          · have E := hide (show P.below l m = P.belowGo m (lastI l (0 + 1)) (l.drop (0 + 1)) by
              rw [hst]
              have : decide (lastI l 0 < x) = true := by simp [lastI]; omega
              rw [this]; rfl)
            have E1 := hide e1
            have g0 : decide ((0 : Int) < 0) = false := by decide
            simp only [Nat.add_zero] at c1
            clear hst hl e1 hx h3
            go_wp2_with fail
            refine wp_quiet_below (by kernel_rfl) (by kernel_rfl) ?_
            repeat (go_big_quiet_step (fail))
            refine wpQuiet_nil ?_
            rintro _ ⟨z, rfl⟩
            have hz := hb.trans (z.below.mono hN)
            go_wp2
            go_roundw
            case rel => exact ⟨1, by omega, by go_num, hz, E.out, .inr (by rw [E1.out]; omega)⟩
            case measure => simp [nI]; omega
          · obtain ⟨j, rfl⟩ : ∃ j, k = j + 1 := ⟨k - 1, by omega⟩
            obtain ⟨y, b', off', hy, _, hA, _, c2⟩ := Sl.ic_at (hS.bel hb) (show j < l.length by omega)
            simp only [Option.some.injEq, Addr.mk.injEq, and_true] at hA
            obtain ⟨rfl, rfl⟩ := hA
            replace c2 := BW.get hbw c2
            have j6 : (0 : Int) ≤ (j : Int) + 1 := by omega
            have hly : lastI l (j + 1) = y := by unfold lastI; rw [if_neg (by omega)]; simp [hy]
            rw [hly] at hst
            have g0 : decide ((0 : Int) < (j : Int) + 1) = true := by simp
            have j1 : (0 : Int) ≤ (j : Int) := by omega
            have j2 : (j : Int) < (l.length : Int) := by omega
            have j3 : (j : Int) + 1 < (l.length : Int) := by omega
            have j4 : (0 : Int) < (j : Int) + 1 := by omega
            have j5 : ((j : Int) + 1).toNat = j + 1 := by omega
            by_cases hxy : x ≤ y
            · have E := hide (show P.below l m = false by
                rw [hst]
                have : decide (y < x) = false := by simp; omega
                rw [this]; rfl)
              have g5 : decide (x ≤ y) = true := by simp [hxy]
              clear hst hl e1 hx hy h3 hly
              go_wp2_with fail
              refine wp_quiet_below (by kernel_rfl) (by kernel_rfl) ?_
              repeat (go_big_quiet_step (fail))
              refine wpQuiet_nil ?_
              rintro _ ⟨z, rfl⟩
              have hz := hb.trans (z.below.mono hN)
              go_wp2
              go_ret
              exact ⟨ret_bool E.out.symm, hz⟩
            · have E := hide (show P.below l m = P.belowGo m (lastI l (j + 1 + 1)) (l.drop (j + 1 + 1)) by
                rw [hst]
                have : decide (y < x) = true := by simp; omega
                rw [this]; rfl)
              have g5 : decide (x ≤ y) = false := by simp; omega
              have E1 := hide e1
              clear hst hl e1 hx hy h3 hly
              go_wp2_with fail
              refine wp_quiet_below (by kernel_rfl) (by kernel_rfl) ?_
              repeat (go_big_quiet_step (fail))
              refine wpQuiet_nil ?_
              rintro _ ⟨z, rfl⟩
              have hz := hb.trans (z.below.mono hN)
              go_wp2
              go_roundw
              case rel => exact ⟨j + 1 + 1, by omega, val_int (by omega), hz, E.out, .inr (by rw [E1.out]; omega)⟩
              case measure => simp [nI]; omega
    · rw [List.drop_of_length_le (by omega)] at hq
      have E := hide hq
      clear hq
      go_wp2
      go_ret
      exact ⟨ret_bool E.out.symm, hb⟩
set_option maxHeartbeats 1000000 in
theorem refCheck14_any (A : Option Addr) (c : Nat) (r : List (List Int)) (n : Int) (w : World) (hR : Rel w A c r) :
    Calls Try.prog 14 #[.slice A r.length c, .int .i64 n] w fun e w' => e = .returned (.int .i64 (P.chk r n)) ∧ Below w.heap.size w w' := by
  have hlc := hR.le
  have hc := hR.max
  by_cases h4 : 4096 < r.length
  · have E := hide (show P.chk r n = 2 by unfold P.chk; rw [if_pos h4])
    have g4 : decide ((4096 : Int) < r.length) = true := by simp; omega
    go_enter Try.func14, Try.ntmps14
    go_wp2
    go_ret
    exact ⟨ret_int E.out.symm, Below.refl _ _⟩
  · have g4 : decide ((4096 : Int) < r.length) = false := by simp; omega
    by_cases hn : n < 0 ∨ 4096 < n
    · have E := hide (show P.chk r n = 310 by unfold P.chk; rw [if_neg h4, if_pos hn])
      rcases Classical.em (n < 0) with h1 | h1
      · go_enter Try.func14, Try.ntmps14
        go_wp2
        go_ret
        exact ⟨ret_int E.out.symm, Below.refl _ _⟩
      · have h2 : 4096 < n := by omega
        clear hn
        go_enter Try.func14, Try.ntmps14
        go_wp2
        go_ret
        exact ⟨ret_int E.out.symm, Below.refl _ _⟩
    · have h1 : ¬ n < 0 := by omega
      have h2 : ¬ 4096 < n := by omega
      have K22 := hide (fun A c l w hS => refBelow22_any A c l n w hS)
      have E := hide (show P.chk r n = if r.all (fun l => P.below l n) = true then 0 else 310 by unfold P.chk; rw [if_neg h4, if_neg hn])
      clear hn
      go_enter Try.func14, Try.ntmps14
      go_wp2
      go_loopw [5] (fun i wr => ∃ k : Nat, k ≤ r.length ∧ i = .int .i64 k ∧ Below w.heap.size w wr ∧ r.all (fun l => P.below l n) = (r.drop k).all (fun l => P.below l n)) (fun i _ => r.length - (nI i).toNat)
      case atStart => exact ⟨0, by omega, rfl, Below.refl _ _, rfl⟩
      case round =>
        obtain ⟨k, hk, rfl, hb, hq⟩ := hrel
        by_cases hlt : k < r.length
        · obtain ⟨l, b, off, B, d, hx, hdr, rfl, hbw, c1, hS⟩ := (hR.bel hb).at_ hlt
          rw [hdr, List.all_cons] at hq
          have K := hide (K22.out B d l wr hS)
          have a1 := hS.le
          have a2 := hS.max
          generalize P.below l n = v at K hq
          clear hdr hx hS
          cases v
          · rw [Bool.false_and] at hq
            have H := hide hq
            clear hq
            go_wp2_with fail
            refine (K.out).mono ?_
            rintro e w2 ⟨rfl, hb2⟩
            have hB := kcall hb hb2
            go_wp2
            go_ret
            exact ⟨ret_int (by rw [E.out, H.out]; rfl), hB⟩
          · rw [Bool.true_and] at hq
            have H := hide hq
            clear hq
            go_wp2_with fail
            refine (K.out).mono ?_
            rintro e w2 ⟨rfl, hb2⟩
            have hB := kcall hb hb2
            clear hb2 hb c1 hbw
            go_wp2
            go_roundw
            case rel => exact ⟨k + 1, by omega, by go_num, hB, H.out⟩
            case measure => simp [nI]; omega
        · rw [List.drop_of_length_le (by omega)] at hq
          have H := hide hq
          clear hq
          go_wp2
          go_ret
          exact ⟨ret_int (by rw [E.out, H.out]; rfl), hb⟩
set_option maxHeartbeats 1000000 in
theorem has21_any (A : Option Addr) (c : Nat) (l : List Int) (n : Int) (w : World) (hS : Sl ic 1 w A c l) :
    Calls Try.prog 21 #[.slice A l.length c, .int .i64 n] w fun e w' => e = .returned (.bool (l.contains n)) ∧ w = w' := by
  have hlc := hS.le
  have hc := hS.max
  obtain ⟨r, hr⟩ : ∃ r, l.contains n = r := ⟨_, rfl⟩
  rw [hr]
  go_enter Try.func21, Try.ntmps21
  go_wp2
  go_loop [5] (fun i => ∃ k : Nat, k ≤ l.length ∧ i = .int .i64 k ∧ (l.drop k).contains n = r) (fun i => l.length - (nI i).toNat)
  case atStart => exact ⟨0, Nat.zero_le _, rfl, hr⟩
  case round =>
    obtain ⟨k, hk, rfl, hq⟩ := hrel
    by_cases hlt : k < l.length
    · obtain ⟨x, b, off, hx, hdr, rfl, hbw, c1⟩ := Sl.ic_at hS hlt
      rw [hdr, List.contains_cons] at hq
      clear hdr hx
      by_cases hxn : x = n
      · have H := hide (show true = r by rw [← hq]; simp [hxn])
        have g1 : (x == n) = true := by simp [hxn]
        clear hq hr
        go_wp2
        go_ret
        exact ⟨ret_bool H.out, rfl⟩
      · have H := hide (show (l.drop (k + 1)).contains n = r by rw [← hq]; simp [Ne.symm hxn])
        have g1 : (x == n) = false := by simp [hxn]
        clear hq hr
        go_wp2
        go_round
        case rel => exact ⟨k + 1, by omega, by go_num, H.out⟩
        case measure => simp [nI]; omega
    · rw [List.drop_of_length_le (by omega)] at hq
      have H := hide (show false = r by rw [← hq]; rfl)
      clear hq hr
      go_wp2
      go_ret
      exact ⟨ret_bool H.out, rfl⟩
set_option maxHeartbeats 1000000 in
theorem sameInts20_any (A B : Option Addr) (c d : Nat) (la lb : List Int) (w : World) (hA : Sl ic 1 w A c la) (hB : Sl ic 1 w B d lb) :
    Calls Try.prog 20 #[.slice A la.length c, .slice B lb.length d] w fun e w' => e = .returned (.bool (decide (la = lb))) ∧ Below w.heap.size w w' := by
  have a1 := hA.le
  have a2 := hA.max
  have b1 := hB.le
  have b2 := hB.max
  by_cases hl : la.length = lb.length
  · have g1 : ((la.length : Int) != (lb.length : Int)) = false := by simp [hl]
    have HL := hide hl
    clear hl
    go_enter Try.func20, Try.ntmps20
    go_wp2
    go_loopw [5] (fun i wr => ∃ (k : Nat), k ≤ la.length ∧ i = .int .i64 k ∧ la.take k = lb.take k ∧ Below w.heap.size w wr) (fun i _ => la.length - (nI i).toNat)
    case atStart => exact ⟨0, Nat.zero_le _, rfl, rfl, Below.refl _ _⟩
    case round =>
      obtain ⟨k, hk, rfl, ht, hb⟩ := hrel
      by_cases hlt : k < la.length
      · obtain ⟨x, ba, oa, hx, _, rfl, _, p1⟩ := Sl.ic_at (hA.bel hb) hlt
        obtain ⟨y, bb, ob, hy, _, rfl, _, q1⟩ := Sl.ic_at (hB.bel hb) (show k < lb.length by rw [← HL.out]; exact hlt)
        have hkb : (k : Int) < lb.length := by have := HL.out; omega
        have HT := hide ht
        have HX := hide hx
        have HY := hide hy
        clear ht hx hy hA hB
        by_cases hxy : x = y
        · subst hxy
          go_wp2_with fail
          refine wp_still_all (by kernel_rfl) (by kernel_rfl) ?_
          repeat ((with_reducible refine wpStill_step (fun K hK => ?_)); go_simp; (try go_bits); (with_reducible refine hK _ ?_); clear hK K)
          (with_reducible refine wpStill_nil ?_)
          go_wp2
          go_roundw
          case rel => exact ⟨k + 1, by omega, by go_num, by rw [take_of_get HX.out, take_of_get HY.out, HT.out], hb.drew⟩
          case measure => simp [nI]; omega
        · have hne : la ≠ lb := by
            intro e; subst e
            have := HX.out.symm.trans HY.out
            exact hxy (by simpa using this)
          have HN := hide hne
          clear hne
          go_wp2_with fail
          refine wp_still_all (by kernel_rfl) (by kernel_rfl) ?_
          repeat ((with_reducible refine wpStill_step (fun K hK => ?_)); go_simp; (try go_bits); (with_reducible refine hK _ ?_); clear hK K)
          (with_reducible refine wpStill_nil ?_)
          go_wp2
          go_ret
          exact ⟨ret_bool (by simp [HN.out]), hb.drew⟩
      · have HT := hide ht
        clear ht
        go_wp2
        go_ret
        refine ⟨ret_bool ?_, hb⟩
        have h := HT.out
        rw [List.take_of_length_le (by omega), List.take_of_length_le (by have := HL.out; omega)] at h
        simp [h]
  · have g1 : ((la.length : Int) != (lb.length : Int)) = true := by rw [bne_iff_ne]; omega
    go_enter Try.func20, Try.ntmps20
    go_wp2
    go_ret
    exact ⟨ret_bool (by simp; intro e; exact hl (by rw [e])), Below.refl _ _⟩
set_option maxHeartbeats 1000000 in
theorem same15_any (A B : Option Addr) (c d : Nat) (la lb : List (List Int)) (w : World) (hA : Rel w A c la) (hB : Rel w B d lb) :
    Calls Try.prog 15 #[.slice A la.length c, .slice B lb.length d] w fun e w' => e = .returned (.bool (decide (la = lb))) ∧ Below w.heap.size w w' := by
  have a1 := hA.le
  have a2 := hA.max
  have b1 := hB.le
  have b2 := hB.max
  by_cases hl : la.length = lb.length
  · have g1 : ((la.length : Int) != (lb.length : Int)) = false := by simp [hl]
    have HL := hide hl
    have K20 := hide (fun A B c d la lb w hA hB => sameInts20_any A B c d la lb w hA hB)
    clear hl
    go_enter Try.func15, Try.ntmps15
    go_wp2
    go_loopw [5] (fun i wr => ∃ (k : Nat), k ≤ la.length ∧ i = .int .i64 k ∧ la.take k = lb.take k ∧ Below w.heap.size w wr) (fun i _ => la.length - (nI i).toNat)
    case atStart => exact ⟨0, Nat.zero_le _, rfl, rfl, Below.refl _ _⟩
    case round =>
      obtain ⟨k, hk, rfl, ht, hb⟩ := hrel
      have hN := hb.size
      by_cases hlt : k < la.length
      · obtain ⟨x, ba, oa, Bx, dx, hx, _, rfl, hba, p1, hSx⟩ := (hA.bel hb).at_ hlt
        obtain ⟨y, bb, ob, By, dy, hy, _, rfl, hbb, q1, hSy⟩ := (hB.bel hb).at_ (show k < lb.length by rw [← HL.out]; exact hlt)
        have hkb : (k : Int) < lb.length := by have := HL.out; omega
        have HT := hide ht
        have HX := hide hx
        have HY := hide hy
        have p2 := BW.get hba p1
        have q2 := BW.get hbb q1
        have KX := hide (fun z : BW wr => K20.out Bx By dx dy x y z.world (hSx.bel z.below) (hSy.bel z.below))
        clear ht hx hy hA hB hSx hSy p1 q1
        by_cases hxy : x = y
        · subst hxy
          rw [decide_eq_true rfl] at KX
          go_wp2_with fail
          refine wp_quiet_below (by kernel_rfl) (by kernel_rfl) ?_
          repeat (go_big_quiet_step ((go_at_call 20; exact quiet_below (KX.out _))))
          refine wpQuiet_nil ?_
          rintro _ ⟨z, rfl⟩
          have hz := hb.trans (z.below.mono hN)
          go_wp2
          go_roundw
          case rel => exact ⟨k + 1, by omega, by go_num, by rw [take_of_get HX.out, take_of_get HY.out, HT.out], hz⟩
          case measure => simp [nI]; omega
        · have hne : la ≠ lb := by
            intro e; subst e
            have := HX.out.symm.trans HY.out
            exact hxy (by simpa using this)
          have HN := hide hne
          rw [decide_eq_false hxy] at KX
          clear hne
          go_wp2_with fail
          refine wp_quiet_below (by kernel_rfl) (by kernel_rfl) ?_
          repeat (go_big_quiet_step ((go_at_call 20; exact quiet_below (KX.out _))))
          refine wpQuiet_nil ?_
          rintro _ ⟨z, rfl⟩
          have hz := hb.trans (z.below.mono hN)
          go_wp2
          go_ret
          exact ⟨ret_bool (by simp [HN.out]), hz⟩
      · have HT := hide ht
        clear ht
        go_wp2
        go_ret
        refine ⟨ret_bool ?_, hb⟩
        have h := HT.out
        rw [List.take_of_length_le (by omega), List.take_of_length_le (by have := HL.out; omega)] at h
        simp [h]
  · have g1 : ((la.length : Int) != (lb.length : Int)) = true := by rw [bne_iff_ne]; omega
    go_enter Try.func15, Try.ntmps15
    go_wp2
    go_ret
    exact ⟨ret_bool (by simp; intro e; exact hl (by rw [e])), Below.refl _ _⟩
def shortB (l : List Int) : Bool := decide (l.length ≤ 30)
def few31 (r : List (List Int)) : Bool := (r.take 40).all shortB && (decide (r.length ≤ 30) || (decide (4096 < r.length) && decide (r.length ≤ 4200)))
theorem few31_iff {r : List (List Int)} (h : few31 r = true) : (r.length ≤ 30 ∧ ∀ l ∈ r, l.length ≤ 30) ∨ 4096 < r.length := by
  simp only [few31, Bool.and_eq_true, Bool.or_eq_true, decide_eq_true_eq, List.all_eq_true] at h
  obtain ⟨h1, h2 | h2⟩ := h
  · refine .inl ⟨h2, fun l hl => ?_⟩
    rw [List.take_of_length_le (by omega)] at h1
    simpa [shortB] using h1 l hl
  · exact .inr h2.1
set_option maxHeartbeats 8000000 in
theorem few10_any (A : Option Addr) (c : Nat) (r : List (List Int)) (w : World) (hR : Rel w A c r) :
    Calls Try.prog 10 #[.slice A r.length c] w fun e w' => e = .returned (.bool (few31 r)) ∧ w = w' := by
  have hlc := hR.le
  have hc := hR.max
  obtain ⟨t, ht⟩ : ∃ t, few31 r = t := ⟨_, rfl⟩
  rw [ht]
  go_enter Try.func10, Try.ntmps10
  go_wp2
  go_loop [3] (fun i => ∃ k : Nat, k ≤ r.length ∧ k ≤ 40 ∧ i = .int .i64 k ∧ ((((r.take 40).drop k).all shortB) && (decide (r.length ≤ 30) || (decide (4096 < r.length) && decide (r.length ≤ 4200)))) = t) (fun i => r.length - (nI i).toNat)
  case atStart => exact ⟨0, Nat.zero_le _, by omega, rfl, ht⟩
  case round =>
    obtain ⟨k, hk, hk4, rfl, hq⟩ := hrel
    by_cases hlt : k < r.length ∧ k < 40
    · obtain ⟨hlt, h40⟩ := hlt
      obtain ⟨l, b, off, B, d, hx, hdr, rfl, hbw, c1, hS⟩ := hR.at_ hlt
      have hdr2 : (r.take 40).drop k = l :: (r.take 40).drop (k + 1) := drop_of_get (by rw [List.getElem?_take_of_lt h40]; exact hx)
      rw [hdr2, List.all_cons] at hq
      have a1 := hS.le
      have a2 := hS.max
      have g0 : (k : Int) < 40 := by omega
      clear hdr hdr2 hx hS
      by_cases h30 : l.length ≤ 30
      · have H := hide (show ((((r.take 40).drop (k + 1)).all shortB) && (decide (r.length ≤ 30) || (decide (4096 < r.length) && decide (r.length ≤ 4200)))) = t by
          rw [← hq, show shortB l = true by simp [shortB, h30], Bool.true_and])
        have g1 : decide ((30 : Int) < l.length) = false := by simp; omega
        clear hq ht
        go_wp2
        go_round
        case rel => exact ⟨k + 1, by omega, by omega, by go_num, H.out⟩
        case measure => simp [nI]; omega
      · have H := hide (show false = t by rw [← hq, show shortB l = false by simp [shortB]; omega]; rfl)
        have g1 : decide ((30 : Int) < l.length) = true := by simp; omega
        clear hq ht
        go_wp2
        go_ret
        exact ⟨ret_bool H.out, rfl⟩
    · rw [List.drop_of_length_le (by simp; omega), List.all_nil, Bool.true_and] at hq
      have hcond : ¬ (k : Int) < r.length ∨ ((k : Int) < r.length ∧ ¬ (k : Int) < 40) := by omega
      by_cases h1 : r.length ≤ 30
      · have H := hide (show true = t by rw [← hq]; simp [h1])
        have g1 : decide ((r.length : Int) ≤ 30) = true := by simp; omega
        clear hq ht
        rcases hcond with h | ⟨h, h'⟩
        all_goals
          go_wp2
          go_ret
          exact ⟨ret_bool H.out, rfl⟩
      · have g1 : decide ((r.length : Int) ≤ 30) = false := by simp; omega
        by_cases h2 : 4096 < r.length
        · have g2 : decide ((4096 : Int) < r.length) = true := by simp; omega
          by_cases h3 : r.length ≤ 4200
          · have H := hide (show true = t by rw [← hq]; simp [h2, h3])
            have g3 : decide ((r.length : Int) ≤ 4200) = true := by simp; omega
            clear hq ht
            rcases hcond with h | ⟨h, h'⟩
            all_goals
              go_wp2
              go_ret
              exact ⟨ret_bool H.out, rfl⟩
          · have H := hide (show false = t by rw [← hq]; simp [h1, h3])
            have g3 : decide ((r.length : Int) ≤ 4200) = false := by simp; omega
            clear hq ht
            rcases hcond with h | ⟨h, h'⟩
            all_goals
              go_wp2
              go_ret
              exact ⟨ret_bool H.out, rfl⟩
        · have g2 : decide ((4096 : Int) < r.length) = false := by simp; omega
          have H := hide (show false = t by rw [← hq]; simp [h1, h2])
          clear hq ht
          rcases hcond with h | ⟨h, h'⟩
          all_goals
            go_wp2
            go_ret
            exact ⟨ret_bool H.out, rfl⟩
end Go.Proofs.Ytlobgdnhmhdhbaa

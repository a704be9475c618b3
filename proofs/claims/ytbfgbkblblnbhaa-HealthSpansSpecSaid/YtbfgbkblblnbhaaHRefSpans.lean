/-
  Layer 24: Spans, by the reference: the same as by the program.
-/
import Derived.Test.YtbfgbkblblnbhaaHSame2
import Derived.Test.YtbfgbkblblnbhaaPush
import Derived.BigRegion
namespace Go.Proofs.Ytbfgbkblblnbhaa
open Go.RowKit Go.Mine Go.Mine.H

theorem nil_or_snoc {α : Type} (ls : List α) : ls = [] ∨ ∃ l' y, ls = l' ++ [y] := by
  rcases List.eq_nil_or_concat ls with h | ⟨l', y, h⟩
  · exact .inl h
  · exact .inr ⟨l', y, by rw [h]; simp⟩
theorem ofL_take_yes (l : List Beat) (n : Int) (k : Nat) (x : Beat) (h : l[k]? = some x) (hn : x.1 = n) : ofL (l.take (k + 1)) n false = ofL (l.take k) n false ++ [x.2] := by
  unfold ofL dir
  simp only [Bool.false_eq_true, if_false]
  rw [take_of_get h, List.filter_append, List.map_append]
  simp [bySrc, hn]
theorem ofL_take_no (l : List Beat) (n : Int) (k : Nat) (x : Beat) (h : l[k]? = some x) (hn : x.1 ≠ n) : ofL (l.take (k + 1)) n false = ofL (l.take k) n false := by
  unfold ofL dir
  simp only [Bool.false_eq_true, if_false]
  rw [take_of_get h, List.filter_append, List.map_append]
  simp [bySrc, hn]

theorem refSpans_bad (A : Option Addr) (c : Nat) (l : List Beat) (n q : Int) (w : World) (hS : Sl bc 2 w A c l) (hne : spansOk l n q = false) :
    Calls Try.prog 22 #[.slice A l.length c, .int .i64 n, .int .i64 q] w fun e w' => e = .returned (.tuple #[.slice none 0 0, .int .i64 (spansE l n q)]) ∧ Below w.heap.size w w' := by
  have K20 := hide (fun w (hS : Sl bc 2 w A c l) => refCheck_any A c l w hS)
  by_cases hz : chk l = 0
  · have ha : argsOk n q = false := by simpa [spansOk, hz] using hne
    have E := hide (show spansE l n q = 1 by simp [spansE, hz, ha])
    rw [hz] at K20
    clear hz hne
    by_cases h1 : withinB n 0 15 = true
    · have h2 : withinB q 1 1073741824 = false := by simpa [argsOk, h1] using ha
      clear ha
      go_enter Try.func22, Try.ntmps22
      go_wp2_with (first | (go_at_call 52; refine (refSource_any _ _).mono ?_; rintro e w' ⟨rfl, rfl⟩) | (go_at_call 28; refine (refQuiet_any _ _).mono ?_; rintro e w' ⟨rfl, rfl⟩) | (go_at_call 20; refine (K20.out _ hS).mono ?_; rintro e w1 ⟨rfl, hb1⟩))
      go_ret2
      exact ⟨by rw [E.out]; rfl, hb1⟩
    · have h1' : withinB n 0 15 = false := by simpa using h1
      clear ha h1
      go_enter Try.func22, Try.ntmps22
      go_wp2_with (first | (go_at_call 52; refine (refSource_any _ _).mono ?_; rintro e w' ⟨rfl, rfl⟩) | (go_at_call 28; refine (refQuiet_any _ _).mono ?_; rintro e w' ⟨rfl, rfl⟩) | (go_at_call 20; refine (K20.out _ hS).mono ?_; rintro e w1 ⟨rfl, hb1⟩))
      go_ret2
      exact ⟨by rw [E.out]; rfl, hb1⟩
  · have E := hide (show spansE l n q = chk l by simp [spansE, hz])
    have hn : (chk l != 0) = true := by simp [hz]
    clear hz hne
    go_enter Try.func22, Try.ntmps22
    go_wp2_with (first | (go_at_call 52; refine (refSource_any _ _).mono ?_; rintro e w' ⟨rfl, rfl⟩) | (go_at_call 28; refine (refQuiet_any _ _).mono ?_; rintro e w' ⟨rfl, rfl⟩) | (go_at_call 20; refine (K20.out _ hS).mono ?_; rintro e w1 ⟨rfl, hb1⟩))
    go_ret2
    exact ⟨by rw [E.out]; rfl, hb1⟩

set_option maxHeartbeats 4000000 in
theorem refSpans_good (A : Option Addr) (c : Nat) (l : List Beat) (n q : Int) (w : World) (hS : Sl bc 2 w A c l) (hz : chk l = 0) (ha : argsOk n q = true) :
    Calls Try.prog 22 #[.slice A l.length c, .int .i64 n, .int .i64 q] w fun e w' => ∃ v, e = .returned (.tuple #[v, .int .i64 0]) ∧ OwnL bc 2 62 w' w.heap.size v (spansGo q [] (ofL l n false)) ∧ Below w.heap.size w w' := by
  have hso := chk_sorted l hz
  obtain ⟨h1, h2⟩ : withinB n 0 15 = true ∧ withinB q 1 1073741824 = true := by simpa [argsOk] using ha
  obtain ⟨q1, q2⟩ := (withinB_iff _ _ _).1 h2
  have K20 := hide (fun w (hS : Sl bc 2 w A c l) => refCheck_any A c l w hS)
  rw [hz] at K20
  have hxs : ∀ x ∈ l, 0 ≤ x.2 ∧ x.2 ≤ 1099511627775 := fun x hx => ⟨(hso.2.1 x hx).1, (hso.2.1 x hx).2.1⟩
  have HX := hide hxs
  have hlen : l.length ≤ 4096 := hso.1
  clear hz ha hso hxs
  obtain ⟨i0, hi, hz0, hz1, hz2⟩ := info_parts Try_info62
  have HI := hide hi
  clear hi
  have hlc := hS.le
  have hc := hS.max
  go_enter Try.func22, Try.ntmps22
  go_wp2_with (first | (go_at_call 52; refine (refSource_any _ _).mono ?_; rintro e w' ⟨rfl, rfl⟩) | (go_at_call 28; refine (refQuiet_any _ _).mono ?_; rintro e w' ⟨rfl, rfl⟩) | (go_at_call 20; refine (K20.out _ hS).mono ?_; rintro e w1 ⟨rfl, hb1⟩))
  go_loopw [9, 10] (fun v i wr => ∃ k : Nat, k ≤ l.length ∧ i = .int .i64 k ∧ Below w.heap.size w wr ∧ OwnL bc 2 62 wr w.heap.size v (spansGo q [] (ofL (l.take k) n false))) (fun _ i _ => l.length - (intOf i).toNat)
  case atStart => exact ⟨0, by omega, rfl, kalloc hb1 _, OwnL.fresh w1 hb1.size⟩
  case round =>
    obtain ⟨k, hk, rfl, hb, hO⟩ := hrel
    clear hb1
    by_cases hlt : k < l.length
    · obtain ⟨x, b, off, hx, hdr, rfl, hbw, c1, c2⟩ := Sl.two hS hb hlt
      obtain ⟨x1, x2⟩ := HX.out x (List.mem_of_getElem? hx)
      have hbr : b < wr.heap.size := Nat.lt_of_lt_of_le hbw hb.size
      clear hdr
      have hll : (spansGo q [] (ofL (l.take k) n false)).length < 8000 := by
        have h1 := spansGo_length q (ofL (l.take k) n false) []
        have h2 := ofL_length (l.take k) n false
        have h3 := List.length_take_le k l
        simp only [List.length_nil] at h1
        omega
      by_cases hn : x.1 = n
      · have e1 : spansGo q [] (ofL (l.take (k + 1)) n false) = joinL (spansGo q [] (ofL (l.take k) n false)) (x.2, min (x.2 + q) 1099511627776) := by rw [ofL_take_yes l n k x hx hn, spansGo_snoc]; rfl
        have g1 : (x.1 != n) = false := by simp [hn]
        have hif : (if 1099511627776 < x.2 + q then (1099511627776 : Int) else x.2 + q) = min (x.2 + q) 1099511627776 := by split <;> omega
        generalize min (x.2 + q) 1099511627776 = m at e1 hif
        generalize spansGo q [] (ofL (l.take k) n false) = ls at e1 hO hll
        obtain ⟨A2, cp, rfl, -⟩ := hO.sl
        have E1 := hide e1
        have HO := hide hO
        clear e1 hO hx hn
        go_wp2_with fail
        go_region
        go_wp2_with fail
        refine at_world (fun W => Blk W wr.heap.size 62 #[.int .i64 x.2, .int .i64 m] ∧ OwnL bc 2 62 W w.heap.size (.slice A2 ls.length cp) ls ∧ Below w.heap.size w W) ⟨(Blk.new _ _ _).drew, (HO.out.alloc _).drew, (kalloc hb _).drew⟩ ?_
        rintro W ⟨hB, hO, hb'⟩
        clear c1 c2 HO hb hif
        have y0 := hB.cell (v := .int .i64 x.2) 0 rfl
        have y1 := hB.cell (v := .int .i64 m) 1 rfl
        have hBl := hB.lt
        have hW := hb'.size
        clear hB
        rcases nil_or_snoc ls with rfl | ⟨l', y, rfl⟩
        · have HO := hide hO
          simp only [List.length_nil] at HO ⊢
          clear hO
          refine wp_still_all (by kernel_rfl) (by kernel_rfl) ?_
          repeat ((with_reducible refine wpStill_step (fun K hK => ?_)); go_simp; (try go_bits); (with_reducible refine hK _ ?_); clear hK K)
          (with_reducible refine wpStill_nil ?_)
          go_wp2_with (at_builtin; refine wpList_push (y := (x.2, m)) rfl (.tmp 75) (.tmp 77) 30 rfl Try.underlying30 HI.out hz0 hz1 hz2 rfl (by decide) rfl (HO.out.drew.alloc _) rfl (heap_new _ _) rfl rfl ?_ ?_ ?_ ?_ ?_)
          · simp [Value.oneCell', bc]
          · simp [maxLen]
          · simp
          · simp; omega
          · intro v' w2 hO2 hgr hat
            have H2 := hide hO2
            have hb2 := Below.grown (kalloc hb'.drew _) hgr (by simp; omega) (fun g hg => (HO.out.blk hg).1)
            clear hO2 hgr hat
            go_wp2
            go_roundw
            case rel => exact ⟨k + 1, by omega, by go_num, hb2, by rw [E1.out]; exact H2.out⟩
            case measure => simp [intOf]; omega
        · obtain ⟨g, cap, hv, hg1, hg2, hcap, -, hfz, hcell, hput⟩ := hO.last
          simp only [Value.slice.injEq] at hv
          obtain ⟨rfl, -, rfl⟩ := hv
          have u1 := hcell 1 (.int .i64 y.2) rfl
          have fz := hfz (l'.length * 2 + 1)
          have HO := hide hO
          have HP := hide hput
          simp only [List.length_append, List.length_cons, List.length_nil, Nat.zero_add] at HO hll ⊢
          clear hO hput hcell hfz
          have hl1 : (l'.length : Int) < (l'.length : Int) + 1 := by omega
          have E2 := E1.out
          rw [joinL_snoc] at E2
          dsimp only at E2
          clear E1
          by_cases htc : x.2 ≤ y.2
          · have gd : decide (x.2 ≤ y.2) = true := by simp [htc]
            rw [if_pos htc] at E2
            have E3 := hide E2
            clear E2
            refine wp_still_all (by kernel_rfl) (by kernel_rfl) ?_
            repeat ((with_reducible refine wpStill_step (fun K hK => ?_)); go_simp; (try go_bits); (with_reducible refine hK _ ?_); clear hK K)
            (with_reducible refine wpStill_nil ?_)
            go_wp2
            go_roundw
            case rel => exact ⟨k + 1, by omega, by go_num, hb'.drew.setCell (by dsimp only; omega) _, by rw [E3.out]; have h := (HP.out 1 (.int .i64 m) (y.1, m) _ rfl (by decide) rfl).drew; simp only [List.length_append, List.length_cons, List.length_nil, Nat.zero_add] at h; exact h⟩
            case measure => simp [intOf]; omega
          · have gd : decide (x.2 ≤ y.2) = false := by simp; omega
            rw [if_neg htc] at E2
            have E3 := hide E2
            clear E2
            refine wp_still_all (by kernel_rfl) (by kernel_rfl) ?_
            repeat ((with_reducible refine wpStill_step (fun K hK => ?_)); go_simp; (try go_bits); (with_reducible refine hK _ ?_); clear hK K)
            (with_reducible refine wpStill_nil ?_)
            go_wp2_with (at_builtin; refine wpList_push (y := (x.2, m)) (l := l' ++ [y]) rfl (.tmp 75) (.tmp 77) 30 rfl Try.underlying30 HI.out hz0 hz1 hz2 rfl (by decide) rfl (HO.out.drew.alloc _) rfl (heap_new _ _) rfl rfl ?_ ?_ ?_ ?_ ?_)
            · simp [Value.oneCell', bc]
            · simp only [maxLen, List.length_append, List.length_cons, List.length_nil]; omega
            · omega
            · omega
            · intro v' w2 hO2 hgr hat
              have H2 := hide hO2
              have hb2 := Below.grown (kalloc hb'.drew _) hgr (by simp; omega) (fun g hg => (HO.out.blk hg).1)
              clear hO2 hgr hat
              go_wp2
              go_roundw
              case rel => exact ⟨k + 1, by omega, by go_num, hb2, by rw [E3.out]; have h := H2.out; simp only [List.append_assoc, List.cons_append, List.nil_append] at h ⊢; exact h⟩
              case measure => simp [intOf]; omega
      · have e1 := ofL_take_no l n k x hx hn
        have g1 : (x.1 != n) = true := by simp [hn]
        have H := hide hO
        have E1 := hide e1
        clear hO e1 hx hn
        go_wp2
        go_roundw
        case rel => exact ⟨k + 1, by omega, by go_num, hb, by rw [E1.out]; exact H.out⟩
        case measure => simp [intOf]; omega
    · obtain rfl : k = l.length := by omega
      rw [List.take_length] at hO
      have H := hide hO
      clear hO
      go_wp2
      go_ret2
      exact ⟨_, rfl, H.out, hb⟩

theorem refSpans_any (A : Option Addr) (c : Nat) (l : List Beat) (n q : Int) (w : World) (hS : Sl bc 2 w A c l) :
    Calls Try.prog 22 #[.slice A l.length c, .int .i64 n, .int .i64 q] w fun e w' => ∃ A2 c2, e = .returned (.tuple #[.slice A2 (spansL l n q).length c2, .int .i64 (spansE l n q)]) ∧ Sl bc 2 w' A2 c2 (spansL l n q) ∧ Below w.heap.size w w' := by
  by_cases hg : spansOk l n q = true
  · obtain ⟨hz, ha⟩ : chk l = 0 ∧ argsOk n q = true := by simpa [spansOk] using hg
    refine (refSpans_good A c l n q w hS hz ha).mono ?_
    rintro e w' ⟨v, rfl, hO, hb⟩
    have hL : spansL l n q = spansGo q [] (ofL l n false) := by unfold spansL; rw [if_pos ⟨hz, ha⟩]
    have hE : spansE l n q = 0 := by unfold spansE; rw [if_pos hz, if_pos ha]
    obtain ⟨A2, c2, rfl, hs⟩ := hO.sl
    exact ⟨A2, c2, by rw [hL, hE], by rw [hL]; exact hs, hb⟩
  · have hg' : spansOk l n q = false := by simpa using hg
    refine (refSpans_bad A c l n q w hS hg').mono ?_
    rintro e w' ⟨rfl, hb⟩
    have hL : spansL l n q = [] := by
      unfold spansL; rw [if_neg]; rintro ⟨h1, h2⟩; simp [spansOk, h1, h2] at hg'
    exact ⟨none, 0, by rw [hL]; rfl, by rw [hL]; exact Sl.nil (by omega), hb⟩
end Go.Proofs.Ytbfgbkblblnbhaa

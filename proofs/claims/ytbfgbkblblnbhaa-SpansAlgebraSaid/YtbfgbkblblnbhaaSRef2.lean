/-
  Layer 13, the reference: Check, Both, Has, Total.
-/
import Derived.Test.YtbfgbkblblnbhaaSRef
namespace Go.Proofs.Ytbfgbkblblnbhaa
open Go.RowKit Go.Mine Go.Mine.H Go.Mine.S

/-- where the list before place k ends -/
def lastE (l : List Sp) (k : Nat) : Int := if k = 0 then -1 else ((l[k - 1]?).map (·.2)).getD (-1)
theorem chk_step {l : List Sp} {k : Nat} {x : Sp} (hx : l[k]? = some x) (h : chkSGo (-1) l = chkSGo (lastE l k) (l.drop k)) :
    chkSGo (-1) l = if lastE l k < x.1 ∧ x.1 < x.2 ∧ x.2 ≤ 1099511627776 then chkSGo (lastE l (k + 1)) (l.drop (k + 1)) else 130 := by
  have e : lastE l (k + 1) = x.2 := by unfold lastE; rw [if_neg (by omega)]; simp [hx]
  rw [h, drop_of_get hx, e]; rfl

set_option maxHeartbeats 4000000 in
theorem refCheckS_any (A : Option Addr) (c : Nat) (l : List Sp) (w : World) (hS : Sl bc 2 w A c l) :
    Calls Try.prog 36 #[.slice A l.length c] w fun e w' => e = .returned (.int .i64 (chkS l)) ∧ Below w.heap.size w w' := by
  have hlc := hS.le
  have hc := hS.max
  by_cases h4 : 4096 < l.length
  · have E := hide (show chkS l = 2 by unfold chkS; rw [if_pos h4])
    have g4 : decide ((4096 : Int) < l.length) = true := by simp; omega
    go_enter Try.func36, Try.ntmps36
    go_wp2
    go_ret
    exact ⟨ret_int E.out.symm, Below.refl _ _⟩
  · have E := hide (show chkS l = chkSGo (-1) l by unfold chkS; rw [if_neg h4])
    have g4 : decide ((4096 : Int) < l.length) = false := by simp; omega
    have KR := hide (fun a b w => refRight_any a b w)
    go_enter Try.func36, Try.ntmps36
    go_wp2
    go_loopw [3] (fun i wr => ∃ k : Nat, k ≤ l.length ∧ i = .int .i64 k ∧ Below w.heap.size w wr ∧ chkSGo (-1) l = chkSGo (lastE l k) (l.drop k) ∧ -1 ≤ lastE l k ∧ (0 < k → 0 ≤ lastE l k)) (fun i _ => l.length - (intOf i).toNat)
    case atStart => exact ⟨0, by omega, rfl, Below.refl _ _, rfl, by simp [lastE], by omega⟩
    case round =>
      obtain ⟨k, hk, rfl, hb, hq, hl1, hl2⟩ := hrel
      have hN := hb.size
      by_cases hlt : k < l.length
      · have hne : l ≠ [] := by rintro rfl; simp at hlt
        obtain ⟨bb, off, rfl, hbw, hget⟩ := Sl.addr (hS.bel hb) hne
        have hx : l[k]? = some l[k] := List.getElem?_eq_getElem hlt
        generalize l[k] = x at hx
        have f1 := hget k x hx 0 (.int .i64 x.1) rfl
        have f2 := hget k x hx 1 (.int .i64 x.2) rfl
        have hst := chk_step hx hq
        have e1 : lastE l (k + 1) = x.2 := by unfold lastE; rw [if_neg (by omega)]; simp [hx]
        rw [e1] at hst
        simp only [Nat.add_zero] at f1
        rw [← Nat.add_assoc] at f2
        have KX := hide (KR.out x.1 x.2)
        have h0 : k = 0 ∨ (0 < k ∧ ∃ y : Sp, l[k - 1]? = some y ∧ lastE l k = y.2) := by
          rcases Nat.eq_zero_or_pos k with h | h
          · exact .inl h
          · refine .inr ⟨h, l[k - 1], List.getElem?_eq_getElem (by omega), ?_⟩
            unfold lastE; rw [if_neg (by omega), List.getElem?_eq_getElem (by omega)]; rfl
        have c1 := BW.get hbw f1
        have c2 := BW.get hbw f2
        have hrb : rgtB (x.1, x.2) = true ↔ 0 ≤ x.1 ∧ x.1 < x.2 ∧ x.2 ≤ 1099511627776 := by simp [rgtB]
        cases hrg : rgtB (x.1, x.2)
        · have hbad : chkSGo (-1) l = 130 := by
            rw [hst, if_neg]
            intro h
            have := hrb.2 ⟨by omega, h.2⟩
            rw [hrg] at this; cases this
          have EB := hide (E.out.trans hbad)
          rw [hrg] at KX
          clear hst hq hbad hget hx hrb hrg h0 hl1 hl2 E KR
          go_wp2_with fail
          refine wp_quiet_below (by kernel_rfl) (by kernel_rfl) ?_
          repeat (go_big_quiet_step ((go_at_call 64; exact quiet_below (KX.out _))))
          refine wpQuiet_nil ?_
          rintro _ ⟨z, rfl⟩
          have hz := z.below
          go_wp2
          go_ret
          exact ⟨ret_int EB.out.symm, hb.trans (hz.mono hN)⟩
        · obtain ⟨r1, r2, r3⟩ := hrb.1 hrg
          rw [hrg] at KX
          rcases h0 with hk0 | ⟨h0, y, hy, hly⟩
          · have hgo : chkSGo (-1) l = chkSGo (lastE l (k + 1)) (l.drop (k + 1)) := by
              rw [hst, if_pos ⟨by subst hk0; simp [lastE]; omega, r2, r3⟩, e1]
            have HG := hide hgo
            have HL := hide e1
            have g0 : decide (0 < (k : Int)) = false := by simp; omega
            have HK := hide hk0
            have g1 : decide (0 < k) = false := by simp; omega
            have hk1 : ¬ 0 < k := by omega
            clear hst hq hget hx hrb hrg hl1 hl2 hgo e1 KR hk0
            go_wp2_with fail
            refine wp_quiet_below (by kernel_rfl) (by kernel_rfl) ?_
            repeat (go_big_quiet_step ((go_at_call 64; exact quiet_below (KX.out _))))
            refine wpQuiet_nil ?_
            rintro _ ⟨z, rfl⟩
            have hz := z.below
            go_wp2
            go_roundw
            case rel => exact ⟨k + 1, by omega, by go_num, hb.trans (hz.mono hN), HG.out, by rw [HL.out]; omega, fun _ => by rw [HL.out]; omega⟩
            case measure => simp [intOf]; omega
          · have f3 := hget (k - 1) y hy 1 (.int .i64 y.2) rfl
            rw [← Nat.add_assoc] at f3
            have c3 := BW.get hbw f3
            rw [hly] at hst
            have i1 : (1 : Int) ≤ k := by omega
            have i2 : (k : Int) - 1 < l.length := by omega
            have i3 : ((k : Int) - 1).toNat = k - 1 := by omega
            have g0 : decide (0 < (k : Int)) = true := by simp; omega
            by_cases hle : x.1 ≤ y.2
            · have hbad : chkSGo (-1) l = 130 := by rw [hst, if_neg (by omega)]
              have EB := hide (E.out.trans hbad)
              have g5 : decide (x.1 ≤ y.2) = true := by simp [hle]
              clear hst hq hbad hget hx hrb hrg hl1 hl2 E KR hy hly e1
              go_wp2_with fail
              refine wp_quiet_below (by kernel_rfl) (by kernel_rfl) ?_
              repeat (go_big_quiet_step ((go_at_call 64; exact quiet_below (KX.out _))))
              refine wpQuiet_nil ?_
              rintro _ ⟨z, rfl⟩
              have hz := z.below
              go_wp2
              go_ret
              exact ⟨ret_int EB.out.symm, hb.trans (hz.mono hN)⟩
            · have hgo : chkSGo (-1) l = chkSGo (lastE l (k + 1)) (l.drop (k + 1)) := by rw [hst, if_pos ⟨by omega, r2, r3⟩, e1]
              have HG := hide hgo
              have HL := hide e1
              have g5 : decide (x.1 ≤ y.2) = false := by simp; omega
              clear hst hq hget hx hrb hrg hl1 hl2 hgo e1 KR hy hly
              go_wp2_with fail
              refine wp_quiet_below (by kernel_rfl) (by kernel_rfl) ?_
              repeat (go_big_quiet_step ((go_at_call 64; exact quiet_below (KX.out _))))
              refine wpQuiet_nil ?_
              rintro _ ⟨z, rfl⟩
              have hz := z.below
              go_wp2
              go_roundw
              case rel => exact ⟨k + 1, by omega, by go_num, hb.trans (hz.mono hN), HG.out, by rw [HL.out]; omega, fun _ => by rw [HL.out]; omega⟩
              case measure => simp [intOf]; omega
      · rw [List.drop_of_length_le (by omega), show ∀ z, chkSGo z [] = 0 from fun _ => rfl] at hq
        have EB := hide (E.out.trans hq)
        clear hq
        go_wp2
        go_ret
        exact ⟨ret_int EB.out.symm, hb⟩

theorem both_any (A A' : Option Addr) (c c' : Nat) (a b : List Sp) (w : World) (hSa : Sl bc 2 w A c a) (hSb : Sl bc 2 w A' c' b) :
    Calls Try.prog 73 #[.slice A a.length c, .slice A' b.length c'] w fun e w' => e = .returned (.int .i64 (errS a b)) ∧ Below w.heap.size w w' := by
  have KA := hide (fun w (hS : Sl bc 2 w A c a) => refCheckS_any A c a w hS)
  have KB := hide (fun w (hS : Sl bc 2 w A' c' b) => refCheckS_any A' c' b w hS)
  by_cases hz : chkS a = 0
  · have E := hide (show errS a b = chkS b by unfold errS; rw [if_pos hz])
    rw [hz] at KA
    clear hz
    go_enter Try.func73, Try.ntmps73
    go_wp2_with fail
    refine (KA.out _ hSa).mono ?_
    rintro e w1 ⟨rfl, hb⟩
    have hB := kcall (Below.refl w.heap.size w) hb
    have s1 := hSb.bel hb
    clear hb
    go_wp2_with fail
    refine (KB.out _ s1).mono ?_
    rintro e w2 ⟨rfl, hb⟩
    have hB2 := kcall hB hb
    clear hb
    go_wp2
    go_ret
    exact ⟨ret_int E.out.symm, hB2⟩
  · have E := hide (show errS a b = chkS a by unfold errS; rw [if_neg hz])
    have hn : (chkS a != 0) = true := by simp [hz]
    clear hz
    go_enter Try.func73, Try.ntmps73
    go_wp2_with fail
    refine (KA.out _ hSa).mono ?_
    rintro e w1 ⟨rfl, hb⟩
    have hB := kcall (Below.refl w.heap.size w) hb
    clear hb
    go_wp2
    go_ret
    exact ⟨ret_int E.out.symm, hB⟩
theorem refHas_any (A : Option Addr) (c : Nat) (l : List Sp) (t : Int) (w : World) (hS : Sl bc 2 w A c l) :
    Calls Try.prog 32 #[.slice A l.length c, .int .i64 t] w fun e w' => e = .returned (.tuple #[.bool (hasR l t), .int .i64 (hasE l t)]) ∧ Below w.heap.size w w' := by
  have KA := hide (fun w (hS : Sl bc 2 w A c l) => refCheckS_any A c l w hS)
  have KT := hide (fun w => refTime_any t w)
  have KI := hide (fun w (hS : Sl bc 2 w A c l) => refIn_any A c l t w hS)
  by_cases hz : chkS l = 0
  · rw [hz] at KA
    by_cases ht : 0 ≤ t ∧ t < 1099511627776
    · have E1 := hide (show hasR l t = inL l t by unfold hasR; rw [if_pos ⟨hz, ht⟩])
      have E2 := hide (show hasE l t = 0 by unfold hasE; rw [if_pos hz, if_pos ht])
      rw [show timeB t = true by simp [timeB, ht.1, ht.2]] at KT
      clear hz ht
      go_enter Try.func32, Try.ntmps32
      go_wp2_with fail
      refine (KA.out _ hS).mono ?_
      rintro e w1 ⟨rfl, hb⟩
      have s1 := hS.bel hb
      go_wp2_with (first | (go_at_call 62; refine (KT.out _).mono ?_; rintro e w' ⟨rfl, rfl⟩) | (go_at_call 63; refine (KI.out _ s1).mono ?_; rintro e w' ⟨rfl, rfl⟩))
      go_ret2
      exact ⟨by rw [E1.out, E2.out]; rfl, hb⟩
    · have E1 := hide (show hasR l t = false by unfold hasR; rw [if_neg (fun h => ht h.2)])
      have E2 := hide (show hasE l t = 1 by unfold hasE; rw [if_pos hz, if_neg ht])
      rw [show timeB t = false by unfold timeB; rw [Bool.and_eq_false_iff]; simp; omega] at KT
      clear hz ht
      go_enter Try.func32, Try.ntmps32
      go_wp2_with fail
      refine (KA.out _ hS).mono ?_
      rintro e w1 ⟨rfl, hb⟩
      go_wp2_with (go_at_call 62; refine (KT.out _).mono ?_; rintro e w' ⟨rfl, rfl⟩)
      go_ret2
      exact ⟨by rw [E1.out, E2.out]; rfl, hb⟩
  · have E1 := hide (show hasR l t = false by unfold hasR; rw [if_neg (fun h => hz h.1)])
    have E2 := hide (show hasE l t = chkS l by unfold hasE; rw [if_neg hz])
    have hn : (chkS l != 0) = true := by simp [hz]
    clear hz
    go_enter Try.func32, Try.ntmps32
    go_wp2_with fail
    refine (KA.out _ hS).mono ?_
    rintro e w1 ⟨rfl, hb⟩
    go_wp2
    go_ret2
    exact ⟨by rw [E1.out, E2.out]; rfl, hb⟩
set_option maxHeartbeats 1000000 in
theorem refTotal_any (A : Option Addr) (c : Nat) (l : List Sp) (w : World) (hS : Sl bc 2 w A c l) :
    Calls Try.prog 34 #[.slice A l.length c] w fun e w' => e = .returned (.tuple #[.int .i64 (totR l), .int .i64 (chkS l)]) ∧ Below w.heap.size w w' := by
  have KA := hide (fun w (hS : Sl bc 2 w A c l) => refCheckS_any A c l w hS)
  by_cases hz : chkS l = 0
  · rw [hz] at KA
    obtain ⟨hg, hl4⟩ := chkS_good hz
    have hm := hide (good_mem l _ hg (by omega))
    have E := hide (show totR l = tot l by unfold totR; rw [if_pos hz])
    rw [hz]
    clear hz hg
    have hlc := hS.le
    have hcm := hS.max
    go_enter Try.func34, Try.ntmps34
    go_wp2_with fail
    refine (KA.out _ hS).mono ?_
    rintro e w1 ⟨rfl, hb⟩
    have S1 := hide (hS.bel hb)
    have hB := hb
    clear hb KA
    go_wp2_with fail
    go_loopw [5, 6] (fun v i wr => ∃ k : Nat, k ≤ l.length ∧ i = .int .i64 k ∧ v = .int .i64 (tot (l.take k)) ∧ 0 ≤ tot (l.take k) ∧ tot (l.take k) ≤ (k : Int) * 1099511627776 ∧ Below w1.heap.size w1 wr) (fun _ i _ => l.length - (intOf i).toNat)
    case atStart => exact ⟨0, by omega, rfl, rfl, by simp [tot], by simp [tot], Below.refl _ _⟩
    case round =>
      obtain ⟨k, hk, rfl, rfl, t1, t2, hbr⟩ := hrel
      by_cases hlt : k < l.length
      · obtain ⟨x, bb, off, hx, -, rfl, hbw, f1, f2⟩ := sl_at (S1.out.bel hbr) hlt
        obtain ⟨x1, x2, x3⟩ := hm.out x (List.mem_of_getElem? hx)
        have hT := tot_take hx
        clear hx
        have HT := hide hT
        clear hT
        generalize tot (l.take k) = T at HT t1 t2
        go_wp2_with fail
        refine wp_still_all (by kernel_rfl) (by kernel_rfl) ?_
        repeat ((with_reducible refine wpStill_step (fun K hK => ?_)); go_simp; (try go_bits); (with_reducible refine hK _ ?_); clear hK K)
        (with_reducible refine wpStill_nil ?_)
        go_wp2
        have hTT := HT.out
        go_roundw
        case rel => exact ⟨k + 1, by omega, by go_num, val_int (by omega), by omega, by omega, hbr.drew⟩
        case measure => simp [intOf]; omega
      · obtain rfl : k = l.length := by omega
        rw [List.take_length]
        generalize tot l = T at *
        clear S1 hm
        go_wp2
        go_ret2
        exact ⟨by rw [E.out]; rfl, kcall hB hbr⟩
  · have E := hide (show totR l = 0 by unfold totR; rw [if_neg hz])
    have hn : (chkS l != 0) = true := by simp [hz]
    clear hz
    go_enter Try.func34, Try.ntmps34
    go_wp2_with fail
    refine (KA.out _ hS).mono ?_
    rintro e w1 ⟨rfl, hb⟩
    go_wp2
    go_ret2
    exact ⟨by rw [E.out]; rfl, hb⟩
end Go.Proofs.Ytbfgbkblblnbhaa

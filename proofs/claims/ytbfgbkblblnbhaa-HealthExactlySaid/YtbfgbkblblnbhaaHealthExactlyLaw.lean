/-
  HealthExactly: its walk: true, whatever the input.
-/
import Derived.Test.YtbfgbkblblnbhaaHExact
import Derived.Test.YtbfgbkblblnbhaaHSane2
namespace Go.Proofs.Ytbfgbkblblnbhaa
open Go.RowKit Go.Mine Go.Mine.H Go.Mine.S

theorem exactly_bad (A : Option Addr) (c : Nat) (l : List Beat) (q t : Int) (w : World) (hS : Sl bc 2 w A c l) (h : rightB l = false) : Calls Try.prog 14 #[.slice A l.length c, .int .i64 q, .int .i64 t] w fun e w' => e = .returned (.bool true) ∧ Below w.heap.size w w' := by
  have K15 := hide sane_any
  have KR := hide (fun w (hS : Sl bc 2 w A c l) => right_any A c l w hS)
  rw [h] at KR
  clear h
  go_enter Try.func14, Try.ntmps14
  go_wp2_with fail
  refine (K15.out _).mono ?_
  rintro e w1 ⟨rfl, hb⟩
  have hB1 := kcall (Below.refl w.heap.size w) hb
  have s1 := hS.bel hb
  clear hb
  go_wp2_with fail
  refine (KR.out _ s1).mono ?_
  rintro e w2 ⟨rfl, hb⟩
  have hB2 := kcall hB1 hb
  clear hb
  go_wp2
  go_ret
  exact ⟨rfl, hB2⟩
theorem exactly_args (A : Option Addr) (c : Nat) (l : List Beat) (q t : Int) (w : World) (hS : Sl bc 2 w A c l) (h : rightB l = true) (h2 : (withinB q 1 1073741824 && withinB t 0 1099511627775) = false) : Calls Try.prog 14 #[.slice A l.length c, .int .i64 q, .int .i64 t] w fun e w' => e = .returned (.bool true) ∧ Below w.heap.size w w' := by
  have K15 := hide sane_any
  have KR := hide (fun w (hS : Sl bc 2 w A c l) => right_any A c l w hS)
  rw [h] at KR
  clear h
  have KQ := hide (fun w => refQuiet_any q w)
  cases hq : withinB q 1 1073741824
  · rw [hq] at KQ
    go_enter Try.func14, Try.ntmps14
    go_wp2_with fail
    refine (K15.out _).mono ?_
    rintro e w1 ⟨rfl, hb⟩
    have hB1 := kcall (Below.refl w.heap.size w) hb
    have s1 := hS.bel hb
    clear hb
    go_wp2_with fail
    refine (KR.out _ s1).mono ?_
    rintro e w2 ⟨rfl, hb⟩
    have hB2 := kcall hB1 hb
    clear hb
    go_wp2_with fail
    refine (KQ.out _).mono ?_
    rintro e w' ⟨rfl, rfl⟩
    go_wp2
    go_ret
    exact ⟨rfl, hB2⟩
  · rw [hq] at KQ
    have ht : t < 0 ∨ ¬ t < 0 ∧ 1099511627776 ≤ t := by
      rw [hq, Bool.true_and] at h2
      have := (withinB_not _ _ _).1 h2
      omega
    clear h2 hq
    go_enter Try.func14, Try.ntmps14
    go_wp2_with fail
    refine (K15.out _).mono ?_
    rintro e w1 ⟨rfl, hb⟩
    have hB1 := kcall (Below.refl w.heap.size w) hb
    have s1 := hS.bel hb
    clear hb
    go_wp2_with fail
    refine (KR.out _ s1).mono ?_
    rintro e w2 ⟨rfl, hb⟩
    have hB2 := kcall hB1 hb
    clear hb
    go_wp2_with fail
    refine (KQ.out _).mono ?_
    rintro e w' ⟨rfl, rfl⟩
    rcases ht with h1 | ⟨h1, h2⟩
    all_goals
      go_wp2
      go_ret
      exact ⟨rfl, hB2⟩

theorem heard_at {l : List Beat} {n q t : Int} (hz : chk l = 0) (ha : argsOk n q = true) (ht : withinB t 0 1099511627775 = true) : heardV l n q t = .tuple #[.bool (isIn l n q t), .int .i64 0] := by
  refine heardV_ok l n q t hz ?_
  unfold argsOk at ha
  rw [ha, ht]; rfl
set_option maxRecDepth 100000 in
set_option maxHeartbeats 8000000 in
theorem exactly_in (A : Option Addr) (c : Nat) (l : List Beat) (q t : Int) (w : World) (hS : Sl bc 2 w A c l) (h : rightB l = true) (hq : withinB q 1 1073741824 = true) (ht : withinB t 0 1099511627775 = true) : Calls Try.prog 14 #[.slice A l.length c, .int .i64 q, .int .i64 t] w fun e w' => e = .returned (.bool true) ∧ Below w.heap.size w w' := by
  have K15 := hide sane_any
  have KR := hide (fun w (hS : Sl bc 2 w A c l) => right_any A c l w hS)
  rw [h] at KR
  have KQ := hide (fun w => refQuiet_any q w)
  rw [hq] at KQ
  have hz : chk l = 0 := by simp [rightB] at h; exact h.2
  have hll : l.length ≤ 40 := by simp [rightB] at h; exact h.1
  have hav : argsV 16 q t = true := by unfold argsV; rw [hq, ht]; rfl
  have KV := hide (fun w (hS : Sl bc 2 w A c l) => Voters_any A c l 16 q t w hS)
  rw [show votersE l 16 q t = 0 by unfold votersE; rw [if_pos hz, if_pos hav]] at KV
  have hvl : (votersL l 16 q t).length = 16 := by unfold votersL; rw [if_pos ⟨hz, hav⟩]; simp
  have hvg : ∀ k : Nat, k < 16 → (votersL l 16 q t)[k]? = some (isIn l (k : Int) q t) := fun k hk => by
    unfold votersL; rw [if_pos ⟨hz, hav⟩]; simp [List.getElem?_map, List.getElem?_range, hk]
  generalize votersL l 16 q t = V at KV hvl hvg
  rw [hvl] at KV
  have HV := hide hvg
  have t1 : ¬ t < 0 := by simp [withinB] at ht; omega
  have t2 : ¬ 1099511627776 ≤ t := by simp [withinB] at ht; omega
  have KH := hide (fun (k : Nat) w (hk : k < 16) (hS : Sl bc 2 w A c l) => by
    have K := Heard_any A c l (k : Int) q t w hS
    rw [heard_at hz (by unfold argsOk; rw [hq, Bool.and_true]; simp [withinB]; omega) ht] at K
    exact K)
  have KS := hide (fun (k : Nat) w (hk : k < 16) (hS : Sl bc 2 w A c l) => by
    have K := Spans_any A c l (k : Int) q w hS
    rw [(spansL_is hz (show argsOk (k : Int) q = true by unfold argsOk; rw [hq, Bool.and_true]; simp [withinB]; omega) (by omega)).2.1] at K
    exact K)
  have KI := hide (fun (k : Nat) A' c' w (hk : k < 16) (hS : Sl bc 2 w A' c' (spansL l (k : Int) q)) => by
    have K := sHas_any A' c' _ t w hS
    obtain ⟨z, -, z2⟩ := spansL_is hz (show argsOk (k : Int) q = true by unfold argsOk; rw [hq, Bool.and_true]; simp [withinB]; omega) (by omega)
    have hr : hasR (spansL l (k : Int) q) t = isIn l (k : Int) q t := by unfold hasR; rw [if_pos ⟨z, by omega⟩, z2 t (by omega)]
    have he : hasE (spansL l (k : Int) q) t = 0 := by unfold hasE; rw [if_pos z, if_pos (by omega)]
    rw [hr, he] at K
    exact K)
  have KC := hide (fun (k : Nat) A' c' w (hk : k < 16) (hS : Sl bc 2 w A' c' (spansL l (k : Int) q)) => by
    have K := sCheck_any A' c' _ w hS
    rw [(spansL_is hz (show argsOk (k : Int) q = true by unfold argsOk; rw [hq, Bool.and_true]; simp [withinB]; omega) (by omega)).1] at K
    exact K)
  have hlc := hS.le
  have hc := hS.max
  clear h hq ht hz hll hav hvg
  have hB0 := Below.refl w.heap.size w
  go_enter Try.func14, Try.ntmps14
  go_wp2_with fail
  refine (K15.out _).mono ?_
  rintro e w1 ⟨rfl, hb⟩
  have hB1 := kcall hB0 hb
  replace hS := hS.bel hb
  clear hb hB0
  go_wp2_with fail
  refine (KR.out _ hS).mono ?_
  rintro e w2 ⟨rfl, hb⟩
  have hB2 := kcall hB1 hb
  replace hS := hS.bel hb
  clear hb hB1
  go_wp2_with fail
  refine (KQ.out _).mono ?_
  rintro e w' ⟨rfl, rfl⟩
  go_wp2_with fail
  refine (KV.out _ hS).mono ?_
  rintro e w3 ⟨Av, cv, rfl, hV, hb⟩
  have hB3 := hide (kcall hB2 hb)
  replace hS := hide (hS.bel hb)
  have hvc := hV.le
  have hvm := hV.max
  clear hb hB2 KV KQ KR K15
  go_wp2
  go_loopw [51] (fun i wr => ∃ k : Nat, k ≤ 16 ∧ i = .int .i64 k ∧ Below w3.heap.size w3 wr) (fun i _ => 16 - (intOf i).toNat)
  case atStart => exact ⟨0, by omega, rfl, Below.refl _ _⟩
  case round =>
    obtain ⟨k, hk, rfl, hb⟩ := hrel
    by_cases hlt : k < 16
    · have hne : V ≠ [] := by rintro rfl; simp at hvl
      obtain ⟨bb', off, rfl, hbw, hget⟩ := Sl.addr (hV.bel hb) hne
      have f1 := hget k _ (HV.out k hlt) 0 (.bool (isIn l (k : Int) q t)) rfl
      simp only [Nat.mul_one, Nat.add_zero] at f1
      have S1 := hide (hS.out.bel hb)
      replace KH := hide (fun w => KH.out k w hlt)
      replace KS := hide (fun w => KS.out k w hlt)
      replace KI := hide (fun A' c' w => KI.out k A' c' w hlt)
      replace KC := hide (fun A' c' w => KC.out k A' c' w hlt)
      generalize spansL l (k : Int) q = L at KS KI KC
      generalize isIn l (k : Int) q t = v at f1 KH KI
      clear hget hne hV HV hS
      go_wp2_with fail
      refine (KH.out _ S1.out).mono ?_
      rintro e w4 ⟨rfl, hb4⟩
      have hB4 := kcall hb hb4
      have S4 := hide (S1.out.bel hb4)
      clear hb4 hb f1
      go_wp2_with fail
      refine (KS.out _ S4.out).mono ?_
      rintro e w5 ⟨A5, c5, rfl, hL, hb⟩
      have hB5 := kcall hB4 hb
      clear hb hB4
      have hL1 := hL.le
      have hL2 := hL.max
      go_wp2_with fail
      refine (KI.out _ _ _ hL).mono ?_
      rintro e w6 ⟨rfl, hb⟩
      have hB6 := kcall hB5 hb
      replace hL := hL.bel hb
      clear hb hB5
      go_wp2_with fail
      refine (KC.out _ _ _ hL).mono ?_
      rintro e w7 ⟨rfl, hb⟩
      have hB7 := kcall hB6 hb
      clear hb hB6 hL
      cases v
      all_goals
        go_wp2
        go_roundw
        case rel => exact ⟨k + 1, by omega, by go_num, hB7⟩
        case measure => simp [intOf]; omega
    · obtain rfl : k = 16 := by omega
      go_wp2
      go_ret
      exact ⟨rfl, kcall hB3.out hb⟩
theorem healthExactly_law (A : Option Addr) (c : Nat) (l : List Beat) (q t : Int) (w : World) (hS : Sl bc 2 w A c l) : Calls Try.prog 14 #[.slice A l.length c, .int .i64 q, .int .i64 t] w fun e w' => e = .returned (.bool true) ∧ Below w.heap.size w w' := by
  cases h : rightB l
  · exact exactly_bad A c l q t w hS h
  · cases hq : withinB q 1 1073741824 && withinB t 0 1099511627775
    · exact exactly_args A c l q t w hS h hq
    · simp only [Bool.and_eq_true] at hq
      exact exactly_in A c l q t w hS h hq.1 hq.2
end Go.Proofs.Ytbfgbkblblnbhaa

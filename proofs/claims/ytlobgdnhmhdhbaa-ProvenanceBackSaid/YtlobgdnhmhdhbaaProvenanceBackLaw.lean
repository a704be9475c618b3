/-
  ProvenanceBack: its walk: true, whatever the input.
-/
import Derived.Test.YtlobgdnhmhdhbaaPOpen
namespace Go.Proofs.Ytlobgdnhmhdhbaa
open Go.RowKit Go.Shelf Go.Mine

set_option maxRecDepth 100000 in
set_option maxHeartbeats 8000000 in
theorem back_loop (A B : Option Addr) (c d : Nat) (r : List (List Int)) (n : Int) (l : List Int) (w : World) (hR : Rel w A c r) (hS : Sl ic 1 w B d l) (hr : few31 r = true) (hl : ¬ 100 < l.length) (hn : ¬ 30 < n) (he : P.argE r n r.length l = 0) : Calls Try.prog 6 #[.slice A r.length c, .int .i64 n, .slice B l.length d] w fun e w' => e = .returned (.bool true) ∧ Below w.heap.size w w' := by
  have K9 := hide sane31_any
  have Fr := hide (fun w (hR : Rel w A c r) => few10_any A c r w hR)
  rw [hr] at Fr
  have hB0 := Below.refl w.heap.size w
  have hR_a := hR.le
  have hR_b := hR.max
  have hS_a := hS.le
  have hS_b := hS.max
  have g1 : decide ((100 : Int) < l.length) = false := by simp; omega
  have g2 : decide ((30 : Int) < n) = false := by simp; omega
  obtain ⟨-, hn0, -, -⟩ := P.chk_zero.1 (P.argE_zero.1 he).1
  obtain ⟨N, rfl⟩ : ∃ N : Nat, n = (N : Int) := ⟨n.toNat, by omega⟩
  have K18 := hide (fun w (hR : Rel w A c r) (hS : Sl ic 1 w B d l) => back18_sl A B c d r (N : Int) l w hR hS)
  have F := hide (fun (k : Nat) (hk : k < N) => P.there_back he (show (0 : Int) ≤ (k : Int) by omega) (show (k : Int) < (N : Int) by omega))
  have KH := hide (fun t w (hS : Sl ic 1 w B d l) => has21_any B d l t w hS)
  have KL := hide (fun A2 c2 t w (hV : Sl ic 1 w A2 c2 (P.backL r (N : Int) l)) => has21_any A2 c2 _ t w hV)
  rw [he] at K18
  generalize P.backL r (N : Int) l = L at K18 F KL
  have hN30 : N ≤ 30 := by omega
  clear hr hl hn he hn0
  go_enter Try.func6, Try.ntmps6
  go_wp2_with fail
  refine (K9.out _).mono ?_
  rintro e w1 ⟨rfl, hb⟩
  have hB1 := kcall hB0 hb
  replace hR := hR.bel hb
  replace hS := hS.bel hb
  clear hb hB0
  go_wp2_with fail
  refine (Fr.out _ hR).mono ?_
  rintro e w' ⟨rfl, rfl⟩
  go_wp2_with fail
  refine (K18.out _ hR hS).mono ?_
  rintro e w2 ⟨Av, cv, rfl, hV, hb⟩
  have hB2 := hide (kcall hB1 hb)
  replace hR := hide (hR.bel hb)
  replace hS := hide (hS.bel hb)
  have hV_a := hV.le
  have hV_b := hV.max
  replace hV := hide hV
  clear hb hB1 K9 Fr K18
  go_wp2
  go_loopw [9] (fun i wr => ∃ k : Nat, k ≤ N ∧ i = .int .i64 k ∧ Below w2.heap.size w2 wr) (fun i _ => N - (nI i).toNat)
  case atStart => exact ⟨0, Nat.zero_le _, rfl, Below.refl _ _⟩
  case round =>
    obtain ⟨k, hk, rfl, hb⟩ := hrel
    by_cases hlt : k < N
    · obtain ⟨f1, f2⟩ := F.out k hlt
      have hkN : (k : Int) < (N : Int) := by omega
      have K16 := hide (reach_lit ((hR.out.bel hb).alloc (.cells #[.int .i64 k] 3)) (lit wr [(k : Int)] 1 (cs := #[.int .i64 k]) (by rfl) rfl rfl (by omega)) (P.reachL r (N : Int) [(k : Int)]) 0 r.length 1 _ rfl f1 rfl rfl rfl)
      generalize P.reachL r (N : Int) [(k : Int)] = M at K16 f2
      replace f2 := hide f2
      clear f1 F
      go_wp2_with fail
      refine (K16.out).mono ?_
      rintro e w3 ⟨Am, cm, rfl, hM, hb3⟩
      have hB3 := kcall (kalloc hb _) hb3
      have hM_a := hM.le
      have hM_b := hM.max
      have HM := hide hM
      have HS := hide (hS.out.bel hB3)
      have HV := hide (hV.out.bel hB3)
      replace hB3 := hide hB3
      clear hb3 hb hM K16 hS hV
      go_wp2
      go_loopw [12, 13] (fun q j wq => ∃ h : Nat, h ≤ M.length ∧ j = .int .i64 h ∧ q = .bool ((M.take h).any fun i => l.contains i) ∧ wq = w3) (fun _ j _ => M.length - (nI j).toNat)
      case atStart => exact ⟨0, Nat.zero_le _, rfl, rfl, rfl⟩
      case round =>
        obtain ⟨h, hh, rfl, rfl, rfl⟩ := hrel
        by_cases hlh : h < M.length
        · obtain ⟨z, bz, oz, hz, hdr3, rfl, hbz, c3⟩ := HM.out.ic_at hlh
          have e2 := hide (show ((M.take (h + 1)).any fun i => l.contains i) = (((M.take h).any fun i => l.contains i) || l.contains z) by rw [take_of_get hz]; simp)
          have K := hide (KH.out z _ HS.out)
          generalize ((M.take h).any fun i => l.contains i) = q at e2
          generalize l.contains z = q2 at e2 K
          clear hz hdr3
          cases q
          · go_wp2_with fail
            refine (K.out).mono ?_
            rintro e w' ⟨rfl, rfl⟩
            cases q2
            all_goals
              go_wp2
              go_roundw
              case rel => exact ⟨h + 1, by omega, by go_num, by rw [e2.out]; rfl, by first | trivial | rfl⟩
              case measure => simp [nI]; omega
          · go_wp2
            go_roundw
            case rel => exact ⟨h + 1, by omega, by go_num, by rw [e2.out]; rfl, by first | trivial | rfl⟩
            case measure => simp [nI]; omega
        · obtain rfl : h = M.length := by omega
          rw [List.take_length, f2.out]
          have K := hide (KL.out Av cv (k : Int) _ HV.out)
          generalize L.contains (k : Int) = v at K ⊢
          go_wp2_with fail
          refine (K.out).mono ?_
          rintro e w' ⟨rfl, rfl⟩
          cases v
          all_goals
            go_wp2
            go_roundw
            case rel => exact ⟨k + 1, by omega, by go_num, hB3.out⟩
            case measure => simp [nI]; omega
    · obtain rfl : k = N := by omega
      go_wp2
      go_ret
      exact ⟨rfl, kcall hB2.out hb⟩
theorem back_few (A B : Option Addr) (c d : Nat) (r : List (List Int)) (n : Int) (l : List Int) (w : World) (hR : Rel w A c r) (hS : Sl ic 1 w B d l) (h : few31 r = false ∨ (few31 r = true ∧ (100 < l.length ∨ (¬ 100 < l.length ∧ 30 < n)))) : Calls Try.prog 6 #[.slice A r.length c, .int .i64 n, .slice B l.length d] w fun e w' => e = .returned (.bool true) ∧ Below w.heap.size w w' := by
  have K9 := hide sane31_any
  have Fr := hide (fun w (hR : Rel w A c r) => few10_any A c r w hR)
  have hB0 := Below.refl w.heap.size w
  have hS_a := hS.le
  have hS_b := hS.max
  rcases h with h | ⟨h3, h | ⟨h, h2⟩⟩
  · rw [h] at Fr
    clear h
    go_enter Try.func6, Try.ntmps6
    go_wp2_with fail
    refine (K9.out _).mono ?_
    rintro e w1 ⟨rfl, hb⟩
    go_wp2_with fail
    refine (Fr.out _ (hR.bel hb)).mono ?_
    rintro e w' ⟨rfl, rfl⟩
    go_wp2
    go_ret
    exact ⟨rfl, hb⟩
  · skip
    rw [h3] at Fr
    have g1 : decide ((100 : Int) < l.length) = true := by simp; omega
    clear h h3
    go_enter Try.func6, Try.ntmps6
    go_wp2_with fail
    refine (K9.out _).mono ?_
    rintro e w1 ⟨rfl, hb⟩
    go_wp2_with fail
    refine (Fr.out _ (hR.bel hb)).mono ?_
    rintro e w' ⟨rfl, rfl⟩
    go_wp2
    go_ret
    exact ⟨rfl, hb⟩
  · skip
    rw [h3] at Fr
    have g1 : decide ((100 : Int) < l.length) = false := by simp; omega
    have g2 : decide ((30 : Int) < n) = true := by simp [h2]
    clear h h2 h3
    go_enter Try.func6, Try.ntmps6
    go_wp2_with fail
    refine (K9.out _).mono ?_
    rintro e w1 ⟨rfl, hb⟩
    go_wp2_with fail
    refine (Fr.out _ (hR.bel hb)).mono ?_
    rintro e w' ⟨rfl, rfl⟩
    go_wp2
    go_ret
    exact ⟨rfl, hb⟩
theorem back_bad (A B : Option Addr) (c d : Nat) (r : List (List Int)) (n : Int) (l : List Int) (w : World) (hR : Rel w A c r) (hS : Sl ic 1 w B d l) (hr : few31 r = true) (hl : ¬ 100 < l.length) (hn : ¬ 30 < n) (he : P.argE r n r.length l ≠ 0) : Calls Try.prog 6 #[.slice A r.length c, .int .i64 n, .slice B l.length d] w fun e w' => e = .returned (.bool true) ∧ Below w.heap.size w w' := by
  have K9 := hide sane31_any
  have Fr := hide (fun w (hR : Rel w A c r) => few10_any A c r w hR)
  rw [hr] at Fr
  have hB0 := Below.refl w.heap.size w
  have hS_a := hS.le
  have hS_b := hS.max
  have g1 : decide ((100 : Int) < l.length) = false := by simp; omega
  have g2 : decide ((30 : Int) < n) = false := by simp; omega
  have K18 := hide (fun w (hR : Rel w A c r) (hS : Sl ic 1 w B d l) => back18_sl A B c d r n l w hR hS)
  rw [P.backL_bad he] at K18
  generalize P.argE r n r.length l = e0 at K18 he
  clear hr hl hn
  go_enter Try.func6, Try.ntmps6
  go_wp2_with fail
  refine (K9.out _).mono ?_
  rintro e w1 ⟨rfl, hb⟩
  have hB1 := kcall hB0 hb
  replace hR := hR.bel hb
  replace hS := hS.bel hb
  clear hb hB0
  go_wp2_with fail
  refine (Fr.out _ hR).mono ?_
  rintro e w' ⟨rfl, rfl⟩
  go_wp2_with fail
  refine (K18.out _ hR hS).mono ?_
  rintro e w2 ⟨Av, cv, rfl, hV, hb⟩
  have hB2 := kcall hB1 hb
  go_wp2
  go_ret
  exact ⟨rfl, hB2⟩
theorem provenanceBack_law (A B : Option Addr) (c d : Nat) (r : List (List Int)) (n : Int) (l : List Int) (w : World) (hR : Rel w A c r) (hS : Sl ic 1 w B d l) : Calls Try.prog 6 #[.slice A r.length c, .int .i64 n, .slice B l.length d] w fun e w' => e = .returned (.bool true) ∧ Below w.heap.size w w' := by
  cases hr : few31 r
  · exact back_few A B c d r n l w hR hS (.inl hr)
  · by_cases hl : 100 < l.length
    · exact back_few A B c d r n l w hR hS (.inr ⟨hr, .inl hl⟩)
    · by_cases hn : 30 < n
      · exact back_few A B c d r n l w hR hS (.inr ⟨hr, .inr ⟨hl, hn⟩⟩)
      · by_cases he : P.argE r n r.length l = 0
        · exact back_loop A B c d r n l w hR hS hr hl hn he
        · exact back_bad A B c d r n l w hR hS hr hl hn he
end Go.Proofs.Ytlobgdnhmhdhbaa

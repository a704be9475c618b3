/-
  ProvenanceThree: its walk: true, whatever the input.
-/
import Derived.Test.YtlobgdnhmhdhbaaPOpen
namespace Go.Proofs.Ytlobgdnhmhdhbaa
open Go.RowKit Go.Shelf Go.Mine

theorem own_lit1 (W : World) (i : Int) {base : Nat} (hb : base ≤ W.heap.size) : OwnL ic 1 3 (W.alloc (.cells #[.int .i64 i] 3)) base (.slice (some ⟨W.heap.size, 0, none⟩) 1 1) [i] :=
  ⟨⟨by simp [ic], .inr ⟨W.heap.size, 1, #[.int .i64 i], by simp, hb, heap_new _ _, by simp, by simp [maxLen], by simp, by simp [ic]⟩⟩, by simp [ic]⟩
theorem own_next (k : Nat) : P.own ((k + 1 : Nat) : Int) = P.own (k : Int) ++ [[(k : Int)]] := by
  unfold P.own
  rw [Int.natCast_succ, P.rng_succ, List.map_append]; rfl
theorem three_few (A B C : Option Addr) (c d e : Nat) (r s t : List (List Int)) (n : Int) (w : World) (hR : Rel w A c r) (hS : Rel w B d s) (hT : Rel w C e t) (h : few31 r = false ∨ few31 r = true ∧ (few31 s = false ∨ few31 s = true ∧ (few31 t = false ∨ few31 t = true ∧ 30 < n))) : Calls Try.prog 7 #[.slice A r.length c, .slice B s.length d, .slice C t.length e, .int .i64 n] w fun x w' => x = .returned (.bool true) ∧ Below w.heap.size w w' := by
  have K9 := hide sane31_any
  have Fr := hide (fun w (hR : Rel w A c r) => few10_any A c r w hR)
  have Fs := hide (fun w (hR : Rel w B d s) => few10_any B d s w hR)
  have Ft := hide (fun w (hR : Rel w C e t) => few10_any C e t w hR)
  have hB0 := Below.refl w.heap.size w
  rcases h with h | ⟨h1, h | ⟨h2, h | ⟨h3, h⟩⟩⟩
  · rw [h] at Fr
    clear h
    go_enter Try.func7, Try.ntmps7
    go_wp2_with fail
    refine (K9.out _).mono ?_
    rintro x w1 ⟨rfl, hb⟩
    go_wp2_with fail
    refine (Fr.out _ (hR.bel hb)).mono ?_
    rintro x w' ⟨rfl, rfl⟩
    go_wp2
    go_ret
    exact ⟨rfl, hb⟩
  · rw [h1] at Fr
    rw [h] at Fs
    clear h h1
    go_enter Try.func7, Try.ntmps7
    go_wp2_with fail
    refine (K9.out _).mono ?_
    rintro x w1 ⟨rfl, hb⟩
    go_wp2_with fail
    refine (Fr.out _ (hR.bel hb)).mono ?_
    rintro x w' ⟨rfl, rfl⟩
    go_wp2_with fail
    refine (Fs.out _ (hS.bel hb)).mono ?_
    rintro x w' ⟨rfl, rfl⟩
    go_wp2
    go_ret
    exact ⟨rfl, hb⟩
  · rw [h1] at Fr
    rw [h2] at Fs
    rw [h] at Ft
    clear h h1 h2
    go_enter Try.func7, Try.ntmps7
    go_wp2_with fail
    refine (K9.out _).mono ?_
    rintro x w1 ⟨rfl, hb⟩
    go_wp2_with fail
    refine (Fr.out _ (hR.bel hb)).mono ?_
    rintro x w' ⟨rfl, rfl⟩
    go_wp2_with fail
    refine (Fs.out _ (hS.bel hb)).mono ?_
    rintro x w' ⟨rfl, rfl⟩
    go_wp2_with fail
    refine (Ft.out _ (hT.bel hb)).mono ?_
    rintro x w' ⟨rfl, rfl⟩
    go_wp2
    go_ret
    exact ⟨rfl, hb⟩
  · rw [h1] at Fr
    rw [h2] at Fs
    rw [h3] at Ft
    have g1 : decide ((30 : Int) < n) = true := by simp [h]
    clear h h1 h2 h3
    go_enter Try.func7, Try.ntmps7
    go_wp2_with fail
    refine (K9.out _).mono ?_
    rintro x w1 ⟨rfl, hb⟩
    go_wp2_with fail
    refine (Fr.out _ (hR.bel hb)).mono ?_
    rintro x w' ⟨rfl, rfl⟩
    go_wp2_with fail
    refine (Fs.out _ (hS.bel hb)).mono ?_
    rintro x w' ⟨rfl, rfl⟩
    go_wp2_with fail
    refine (Ft.out _ (hT.bel hb)).mono ?_
    rintro x w' ⟨rfl, rfl⟩
    go_wp2
    go_ret
    exact ⟨rfl, hb⟩
set_option maxRecDepth 100000 in
set_option maxHeartbeats 8000000 in
theorem three_bad (A B C : Option Addr) (c d e : Nat) (r s t : List (List Int)) (n : Int) (w : World) (hR : Rel w A c r) (hS : Rel w B d s) (hT : Rel w C e t) (h1 : few31 r = true) (h2 : few31 s = true) (h3 : few31 t = true) (hn : ¬ 30 < n) (he : P.thenE r s n ≠ 0 ∨ P.thenE r s n = 0 ∧ P.thenE s t r.length ≠ 0) : Calls Try.prog 7 #[.slice A r.length c, .slice B s.length d, .slice C t.length e, .int .i64 n] w fun x w' => x = .returned (.bool true) ∧ Below w.heap.size w w' := by
  have K9 := hide sane31_any
  have Fr := hide (fun w (hR : Rel w A c r) => few10_any A c r w hR)
  have Fs := hide (fun w (hR : Rel w B d s) => few10_any B d s w hR)
  have Ft := hide (fun w (hR : Rel w C e t) => few10_any C e t w hR)
  rw [h1] at Fr
  rw [h2] at Fs
  rw [h3] at Ft
  have g1 : decide ((30 : Int) < n) = false := by simp; omega
  have hB0 := Below.refl w.heap.size w
  have hR_a := hR.le
  have hR_b := hR.max
  have K1 := hide (fun w (hR : Rel w A c r) (hS : Rel w B d s) => then11_any A B c d r s n w hR hS)
  have K2 := hide (fun w (hS : Rel w B d s) (hT : Rel w C e t) => then11_any B C d e s t r.length w hS hT)
  generalize P.thenL r s n = x1 at K1
  generalize P.thenL s t r.length = x2 at K2
  generalize P.thenE r s n = e1 at K1 he
  generalize P.thenE s t r.length = e2 at K2 he
  clear h1 h2 h3 hn
  rcases he with he | ⟨he, he2⟩
  all_goals
    (try subst he)
    go_enter Try.func7, Try.ntmps7
    go_wp2_with fail
    refine (K9.out _).mono ?_
    rintro x w1 ⟨rfl, hb⟩
    have hB1 := kcall hB0 hb
    replace hR := hR.bel hb
    replace hS := hS.bel hb
    replace hT := hT.bel hb
    clear hb
    go_wp2_with fail
    refine (Fr.out _ hR).mono ?_
    rintro x w' ⟨rfl, rfl⟩
    go_wp2_with fail
    refine (Fs.out _ hS).mono ?_
    rintro x w' ⟨rfl, rfl⟩
    go_wp2_with fail
    refine (Ft.out _ hT).mono ?_
    rintro x w' ⟨rfl, rfl⟩
    go_wp2_with fail
    refine (K1.out _ hR hS).mono ?_
    rintro x w2 ⟨A4, c4, rfl, hX, hb⟩
    have hB2 := kcall hB1 hb
    replace hS := hS.bel hb
    replace hT := hT.bel hb
    clear hb
    go_wp2_with fail
    refine (K2.out _ hS hT).mono ?_
    rintro x w3 ⟨A5, c5, rfl, hY, hb⟩
    have hB3 := kcall hB2 hb
    go_wp2
    go_ret
    exact ⟨rfl, hB3⟩
set_option maxRecDepth 100000 in
set_option maxHeartbeats 16000000 in
theorem three_ok (A B C : Option Addr) (c d e : Nat) (r s t : List (List Int)) (n : Int) (w : World) (hR : Rel w A c r) (hS : Rel w B d s) (hT : Rel w C e t) (h1 : few31 r = true) (h2 : few31 s = true) (h3 : few31 t = true) (hn : ¬ 30 < n) (he : P.thenE r s n = 0) (he2 : P.thenE s t r.length = 0) : Calls Try.prog 7 #[.slice A r.length c, .slice B s.length d, .slice C t.length e, .int .i64 n] w fun x w' => x = .returned (.bool true) ∧ Below w.heap.size w w' := by
  have K9 := hide sane31_any
  have Fr := hide (fun w (hR : Rel w A c r) => few10_any A c r w hR)
  have Fs := hide (fun w (hR : Rel w B d s) => few10_any B d s w hR)
  have Ft := hide (fun w (hR : Rel w C e t) => few10_any C e t w hR)
  rw [h1] at Fr
  rw [h2] at Fs
  rw [h3] at Ft
  have g1 : decide ((30 : Int) < n) = false := by simp; omega
  have hB0 := Below.refl w.heap.size w
  have hR_a := hR.le
  have hR_b := hR.max
  have hz := (P.thenE_zero.1 he).1
  obtain ⟨hrl, hn0, -, -⟩ := P.chk_zero.1 hz
  obtain ⟨N, rfl⟩ : ∃ N : Nat, n = (N : Int) := ⟨n.toNat, by omega⟩
  have K1 := hide (fun w (hR : Rel w A c r) (hS : Rel w B d s) => then11_any A B c d r s (N : Int) w hR hS)
  have K2 := hide (fun w (hS : Rel w B d s) (hT : Rel w C e t) => then11_any B C d e s t r.length w hS hT)
  have K3 := hide (fun A4 c4 w (hX : Rel w A4 c4 (P.thenL r s (N : Int))) (hT : Rel w C e t) => then11_any A4 C c4 e _ t (N : Int) w hX hT)
  have K4 := hide (fun A4 c4 w (hR : Rel w A c r) (hX : Rel w A4 c4 (P.thenL s t r.length)) => then11_any A A4 c c4 r _ (N : Int) w hR hX)
  have K5 := hide (fun A4 c4 w (hX : Rel w A4 c4 (P.own (N : Int))) (hR : Rel w A c r) => then11_any A4 A c4 c _ r (N : Int) w hX hR)
  have K6 := hide (fun A4 c4 w (hR : Rel w A c r) (hX : Rel w A4 c4 (P.own r.length)) => then11_any A A4 c c4 r _ (N : Int) w hR hX)
  have ⟨q1, q2, q3⟩ := P.three_ok he he2
  have ⟨q4, q5⟩ := P.own_first hz
  have ⟨q6, q7⟩ := P.own_last hz
  rw [he] at K1
  rw [he2] at K2
  rw [q1, q3] at K3
  rw [q2] at K4
  rw [q4, q5] at K5
  rw [q6, q7] at K6
  generalize P.thenL r (P.thenL s t r.length) (N : Int) = X at K3 K4
  generalize P.thenL r s (N : Int) = x1 at K1 K3
  generalize P.thenL s t r.length = x2 at K2 K4
  have O0 : P.own ((0 : Nat) : Int) = [] := rfl
  obtain ⟨i0, hi, hz0, hz1, hz2⟩ := info_parts Try_info31
  have HI := hide hi
  have hN30 : N ≤ 30 := by omega
  clear h1 h2 h3 hn he he2 hz hn0 q1 q2 q3 q4 q5 q6 q7 hi
  go_enter Try.func7, Try.ntmps7
  go_wp2_with fail
  refine (K9.out _).mono ?_
  rintro x w1 ⟨rfl, hb⟩
  have hB1 := kcall hB0 hb
  replace hR := hR.bel hb
  replace hS := hS.bel hb
  replace hT := hT.bel hb
  clear hb hB0 K9
  go_wp2_with fail
  refine (Fr.out _ hR).mono ?_
  rintro x w' ⟨rfl, rfl⟩
  go_wp2_with fail
  refine (Fs.out _ hS).mono ?_
  rintro x w' ⟨rfl, rfl⟩
  go_wp2_with fail
  refine (Ft.out _ hT).mono ?_
  rintro x w' ⟨rfl, rfl⟩
  clear Fr Fs Ft
  go_wp2_with fail
  refine (K1.out _ hR hS).mono ?_
  rintro x w2 ⟨A4, c4, rfl, hX1, hb⟩
  have hB2 := kcall hB1 hb
  replace hR := hR.bel hb
  replace hS := hS.bel hb
  replace hT := hT.bel hb
  clear hb hB1 K1
  go_wp2_with fail
  refine (K2.out _ hS hT).mono ?_
  rintro x w3 ⟨A5, c5, rfl, hX2, hb⟩
  have hB3 := kcall hB2 hb
  replace hR := hR.bel hb
  replace hT := hT.bel hb
  replace hX1 := hX1.bel hb
  clear hb hB2 K2
  go_wp2_with fail
  refine (K3.out _ _ _ hX1 hT).mono ?_
  rintro x w4 ⟨A6, c6, rfl, hY1, hb⟩
  have hB4 := kcall hB3 hb
  replace hR := hR.bel hb
  replace hX2 := hX2.bel hb
  clear hb hB3 K3 hT hS hX1
  go_wp2_with fail
  refine (K4.out _ _ _ hR hX2).mono ?_
  rintro x w5 ⟨A7, c7, rfl, hY2, hb⟩
  have hB5 := hide (kcall hB4 hb)
  replace hR := hide (hR.bel hb)
  replace hY1 := hide (hY1.bel hb)
  replace hY2 := hide hY2
  clear hb hB4 K4 hX2
  go_wp2
  go_loopw [17, 19] (fun v i wr => ∃ (k : Nat) (es : List Hd), k ≤ N ∧ i = .int .i64 k ∧ es.map (fun e => e.2.2) = P.own (k : Int) ∧ OwnR wr w5.heap.size v es ∧ Below w5.heap.size w5 wr) (fun _ i _ => N - (nI i).toNat)
  case atStart => exact ⟨0, [], Nat.zero_le _, rfl, rfl, ⟨OwnL.nil _ _ _ _ _, by simp⟩, Below.refl _ _⟩
  case round =>
    obtain ⟨k, es, hk, rfl, hes, hO, hb⟩ := hrel
    have hN := hb.size
    have hel : es.length = k := by
      have := congrArg List.length hes
      simp [P.own_length] at this
      exact this
    by_cases hlt : k < N
    · have hkN : (k : Int) < (N : Int) := by omega
      have HO := hide hO
      have e1 := hide (show (es ++ [((some ⟨wr.heap.size, 0, none⟩, 1, [(k : Int)]) : Hd)]).map (fun e => e.2.2) = P.own ((k + 1 : Nat) : Int) by rw [own_next, ← hes]; simp)
      clear hO hes
      go_wp2_with (at_builtin; refine wpList_push (f := hc) (y := ((some ⟨wr.heap.size, 0, none⟩, 1, [(k : Int)]) : Hd)) (l := es) rfl (.tmp 84) (.tmp 87) 22 rfl Try.underlying22 HI.out hz0 hz1 hz2 rfl (by decide) rfl ((HO.out.own.alloc _).alloc _) rfl (new_row1 _ _ _) rfl rfl ?_ ?_ ?_ ?_ ?_)
      · simp [Value.oneCell', hc]
      · simp only [maxLen]; omega
      · omega
      · first | omega | (simp; omega)
      · intro v6 w6 hO6 hgr hat
        have R6 := hide (OwnR.push (x := ((some ⟨wr.heap.size, 0, none⟩, 1, [(k : Int)]) : Hd)) ((HO.out.bel ((Below.refl _ _).alloc (Nat.le_refl _) (Obj.cells #[.int .i64 k] 3))).bel ((Below.refl _ _).alloc (Nat.le_refl _) (Obj.cells #[.slice (some ⟨wr.heap.size, 0, none⟩) 1 1] 31))) ((own_lit1 wr (k : Int) hN).alloc _) hO6 hgr)
        have hb6 := hide (Below.grown ((hb.alloc hN (Obj.cells #[.int .i64 k] 3)).alloc (by simp; omega) (Obj.cells #[.slice (some ⟨wr.heap.size, 0, none⟩) 1 1] 31)) hgr (by simp; omega) (fun g hg => (HO.out.own.blk hg).1))
        clear hO6 hgr hat HO
        go_wp2
        go_roundw
        case rel => exact ⟨k + 1, es ++ [(some ⟨wr.heap.size, 0, none⟩, 1, [(k : Int)])], by omega, by go_num, e1.out, R6.out, hb6.out⟩
        case measure => simp [nI]; omega
    · obtain rfl : k = N := by omega
      obtain ⟨A8, c8, rfl, hRl⟩ := hO.rel
      rw [hes] at hRl ⊢
      have HQ := hide hRl
      have hBq := hide (kcall hB5.out hb)
      have HR := hide (hR.out.bel hb)
      have HY1 := hide (hY1.out.bel hb)
      have HY2 := hide (hY2.out.bel hb)
      have hQ_a := hRl.le
      have hQ_b := hRl.max
      clear hO hRl hes hb hB5 hR hY1 hY2 hN hel
      generalize hw : wr = wq at *
      clear hw
      go_wp2
      go_loopw [18, 20] (fun v i wr => ∃ (k : Nat) (es : List Hd), k ≤ r.length ∧ i = .int .i64 k ∧ es.map (fun e => e.2.2) = P.own (k : Int) ∧ OwnR wr wq.heap.size v es ∧ Below wq.heap.size wq wr) (fun _ i _ => r.length - (nI i).toNat)
      case atStart => exact ⟨0, [], Nat.zero_le _, rfl, rfl, ⟨OwnL.nil _ _ _ _ _, by simp⟩, Below.refl _ _⟩
      case round =>
        obtain ⟨h, es, hk, rfl, hes, hO, hb⟩ := hrel
        have hN := hb.size
        have hel : es.length = h := by
          have := congrArg List.length hes
          simp [P.own_length] at this
          exact this
        by_cases hlt : h < r.length
        · have hkN : (h : Int) < (r.length : Int) := by omega
          have HO := hide hO
          have e1 := hide (show (es ++ [((some ⟨wr.heap.size, 0, none⟩, 1, [(h : Int)]) : Hd)]).map (fun e => e.2.2) = P.own ((h + 1 : Nat) : Int) by rw [own_next, ← hes]; simp)
          clear hO hes
          go_wp2_with (at_builtin; refine wpList_push (f := hc) (y := ((some ⟨wr.heap.size, 0, none⟩, 1, [(h : Int)]) : Hd)) (l := es) rfl (.tmp 95) (.tmp 98) 22 rfl Try.underlying22 HI.out hz0 hz1 hz2 rfl (by decide) rfl ((HO.out.own.alloc _).alloc _) rfl (new_row1 _ _ _) rfl rfl ?_ ?_ ?_ ?_ ?_)
          · simp [Value.oneCell', hc]
          · simp only [maxLen]; omega
          · omega
          · first | omega | (simp; omega)
          · intro v6 w6 hO6 hgr hat
            have R6 := hide (OwnR.push (x := ((some ⟨wr.heap.size, 0, none⟩, 1, [(h : Int)]) : Hd)) ((HO.out.bel ((Below.refl _ _).alloc (Nat.le_refl _) (Obj.cells #[.int .i64 h] 3))).bel ((Below.refl _ _).alloc (Nat.le_refl _) (Obj.cells #[.slice (some ⟨wr.heap.size, 0, none⟩) 1 1] 31))) ((own_lit1 wr (h : Int) hN).alloc _) hO6 hgr)
            have hb6 := hide (Below.grown ((hb.alloc hN (Obj.cells #[.int .i64 h] 3)).alloc (by simp; omega) (Obj.cells #[.slice (some ⟨wr.heap.size, 0, none⟩) 1 1] 31)) hgr (by simp; omega) (fun g hg => (HO.out.own.blk hg).1))
            clear hO6 hgr hat HO
            go_wp2
            go_roundw
            case rel => exact ⟨h + 1, es ++ [(some ⟨wr.heap.size, 0, none⟩, 1, [(h : Int)])], by omega, by go_num, e1.out, R6.out, hb6.out⟩
            case measure => simp [nI]; omega
        · obtain rfl : h = r.length := by omega
          obtain ⟨A9, c9, rfl, hRl⟩ := hO.rel
          rw [hes] at hRl ⊢
          have hB6 := kcall hBq.out hb
          have HR2 := HR.out.bel hb
          have HY3 := HY1.out.bel hb
          have HY4 := HY2.out.bel hb
          have HQ2 := HQ.out.bel hb
          clear hO hes hb hBq HR HY1 HY2 HQ hN hel
          go_wp2_with fail
          refine (K5.out _ _ _ HQ2 HR2).mono ?_
          rintro x w7 ⟨Aa, ca, rfl, hP1, hb⟩
          have hB7 := kcall hB6 hb
          replace HR2 := HR2.bel hb
          replace HY3 := HY3.bel hb
          replace HY4 := HY4.bel hb
          replace hRl := hRl.bel hb
          clear hb hB6 K5 HQ2
          go_wp2_with fail
          refine (K6.out _ _ _ HR2 hRl).mono ?_
          rintro x w8 ⟨Ab, cb, rfl, hP2, hb⟩
          have hB8 := kcall hB7 hb
          replace HR2 := HR2.bel hb
          replace HY3 := HY3.bel hb
          replace HY4 := HY4.bel hb
          replace hP1 := hP1.bel hb
          clear hb hB7 K6 hRl
          go_wp2_with fail
          refine (same_lit HY3 HY4 _ rfl).mono ?_
          rintro x w9 ⟨rfl, hb⟩
          have hB9 := kcall hB8 hb
          replace HR2 := HR2.bel hb
          replace hP1 := hP1.bel hb
          replace hP2 := hP2.bel hb
          clear hb hB8 HY3 HY4
          go_wp2_with fail
          refine (same_lit hP1 HR2 _ rfl).mono ?_
          rintro x w10 ⟨rfl, hb⟩
          have hB10 := kcall hB9 hb
          replace HR2 := HR2.bel hb
          replace hP2 := hP2.bel hb
          clear hb hB9 hP1
          go_wp2_with fail
          refine (same_lit hP2 HR2 _ rfl).mono ?_
          rintro x w11 ⟨rfl, hb⟩
          have hB11 := kcall hB10 hb
          clear hb hB10
          go_wp2
          go_ret
          exact ⟨rfl, hB11⟩
theorem provenanceThree_law (A B C : Option Addr) (c d e : Nat) (r s t : List (List Int)) (n : Int) (w : World) (hR : Rel w A c r) (hS : Rel w B d s) (hT : Rel w C e t) : Calls Try.prog 7 #[.slice A r.length c, .slice B s.length d, .slice C t.length e, .int .i64 n] w fun x w' => x = .returned (.bool true) ∧ Below w.heap.size w w' := by
  cases h1 : few31 r
  · exact three_few A B C c d e r s t n w hR hS hT (.inl h1)
  · cases h2 : few31 s
    · exact three_few A B C c d e r s t n w hR hS hT (.inr ⟨h1, .inl h2⟩)
    · cases h3 : few31 t
      · exact three_few A B C c d e r s t n w hR hS hT (.inr ⟨h1, .inr ⟨h2, .inl h3⟩⟩)
      · by_cases hn : 30 < n
        · exact three_few A B C c d e r s t n w hR hS hT (.inr ⟨h1, .inr ⟨h2, .inr ⟨h3, hn⟩⟩⟩)
        · by_cases he : P.thenE r s n = 0
          · by_cases he2 : P.thenE s t r.length = 0
            · exact three_ok A B C c d e r s t n w hR hS hT h1 h2 h3 hn he he2
            · exact three_bad A B C c d e r s t n w hR hS hT h1 h2 h3 hn (.inr ⟨he, he2⟩)
          · exact three_bad A B C c d e r s t n w hR hS hT h1 h2 h3 hn (.inl he)
end Go.Proofs.Ytlobgdnhmhdhbaa

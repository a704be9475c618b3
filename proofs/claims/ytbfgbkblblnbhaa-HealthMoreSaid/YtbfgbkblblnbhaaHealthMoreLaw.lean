/-
  HealthMore: its walk: true, whatever the input.
-/
import Derived.Test.YtbfgbkblblnbhaaHMore
import Derived.Test.YtbfgbkblblnbhaaPush2
namespace Go.Proofs.Ytbfgbkblblnbhaa
open Go.RowKit Go.Mine Go.Mine.H

theorem four_ways (a b c p : Bool) (h1 : a = true → b = true) (h2 : b = true → c = true) (h3 : p = true → c = b) :
    (a = false ∧ b = false ∧ c = false) ∨ (a = false ∧ b = false ∧ c = true ∧ p = false) ∨ (a = false ∧ b = true ∧ c = true) ∨ (a = true ∧ b = true ∧ c = true) := by
  revert h1 h2 h3; revert a b c p; decide
theorem Try_info41 : (Try.prog.info? 41).map (fun i => (i.zero, i.size, i.bytes)) = some (some (.agg #[.int .i64 0, .int .i64 0]), 2, 16) := by kernel_rfl
set_option maxRecDepth 100000 in
set_option maxHeartbeats 8000000 in
theorem more_in (A : Option Addr) (c : Nat) (l : List Beat) (x1 x2 q m t : Int) (w : World) (hS : Sl bc 2 w A c l) (hr : rightB l = true) (hq : withinB q 1 1073741824 = true) (hm : withinB m 1 1073741824 = true) (ht : 0 ≤ t ∧ t < 1099511627776) :
    Calls Try.prog 6 #[.slice A l.length c, .agg #[.int .i64 x1, .int .i64 x2], .int .i64 q, .int .i64 m, .int .i64 t] w fun e w' => e = .returned (.bool true) ∧ Below w.heap.size w w' := by
  have K15 := hide sane_any
  have KR := hide (fun w (hS : Sl bc 2 w A c l) => right_any A c l w hS)
  have KR2 := hide (fun A' c' w (hS : Sl bc 2 w A' c' (l ++ [(x1, x2)])) => right_any A' c' (l ++ [(x1, x2)]) w hS)
  rw [hr] at KR
  have hz := rightB_chk hr
  have hV : ∀ l' p, chk l' = 0 → withinB p 1 1073741824 = true → votersL l' 16 p t = (List.range 16).map (fun (n : Nat) => isIn l' (n : Int) p t) ∧ votersE l' 16 p t = 0 := by
    intro l' p h1 h2
    have ha : argsV 16 p t = true := by unfold argsV; rw [h2, show withinB 16 1 16 = true from rfl, show withinB t 0 1099511627775 = true by rw [withinB_iff]; omega]; rfl
    exact ⟨by unfold votersL; rw [if_pos ⟨h1, ha⟩]; rfl, by unfold votersE; rw [if_pos h1, if_pos ha]⟩
  have hM : withinB (max q m) 1 1073741824 = true := by rw [withinB_iff] at *; omega
  have KA := hide (fun w (hS : Sl bc 2 w A c l) => Voters_any A c l 16 q t w hS)
  have KB := hide (fun w (hS : Sl bc 2 w A c l) => Voters_any A c l 16 (max q m) t w hS)
  have KC := hide (fun (h : chk (l ++ [(x1, x2)]) = 0) A' c' w (hS : Sl bc 2 w A' c' (l ++ [(x1, x2)])) => by
    have := Voters_any A' c' (l ++ [(x1, x2)]) 16 (max q m) t w hS
    rw [(hV _ _ h hM).1, (hV _ _ h hM).2] at this
    exact this)
  rw [(hV _ _ hz hq).1, (hV _ _ hz hq).2] at KA
  rw [(hV _ _ hz hM).1, (hV _ _ hz hM).2] at KB
  have hab : ∀ n : Nat, isIn l (n : Int) q t = true → isIn l (n : Int) (max q m) t = true := fun n h => isIn_longer (Int.le_max_left _ _) h
  have hbc : ∀ n : Nat, isIn l (n : Int) (max q m) t = true → isIn (l ++ [(x1, x2)]) (n : Int) (max q m) t = true := fun n h => isIn_more h
  have hcc : ∀ n : Nat, x1 ≠ (n : Int) → isIn (l ++ [(x1, x2)]) (n : Int) (max q m) t = isIn l (n : Int) (max q m) t := fun n h => isIn_other h
  have hif : (if q < m then m else q) = max q m := by rw [Int.max_def]; split <;> split <;> omega
  have hif2 : (if m < q then q else m) = max q m := by rw [Int.max_def]; split <;> split <;> omega
  have HAB := hide hab
  have HBC := hide hbc
  have HCC := hide hcc
  have hll : l.length ≤ 40 := by simp [rightB] at hr; exact hr.1
  have HQ := hide hq
  obtain ⟨t1, t2⟩ := ht
  clear hab hbc hcc hV hz hr hM
  generalize max q m = M at *
  have ha1 : argsV 16 q t = true → True := fun _ => trivial
  clear ha1
  have hB0 := Below.refl w.heap.size w
  go_enter Try.func6, Try.ntmps6
  go_wp2_with fail
  refine (K15.out _).mono ?_
  rintro e w1 ⟨rfl, hb⟩
  have hB1 := kcall (kalloc hB0 _) hb
  have bx := (Blk.new w #[.int .i64 x1, .int .i64 x2] 41).bel hb
  have s1 := (hS.alloc _).bel hb
  clear hb hB0
  go_wp2_with ((go_at_call 28; refine (refQuiet_any _ _).mono ?_; rintro e w' ⟨rfl, rfl⟩))
  refine (KR.out _ s1).mono ?_
  rintro e w2 ⟨rfl, hb⟩
  have hB2 := kcall hB1 hb
  have bx := bx.bel hb
  have s2 := s1.bel hb
  clear hb hB1 s1
  go_wp2_with ((go_at_call 28; refine (refQuiet_any _ _).mono ?_; rintro e w' ⟨rfl, rfl⟩))
  refine (KA.out _ s2).mono ?_
  rintro e w3 ⟨A3, c3, rfl, a3, hb⟩
  have hB3 := kcall hB2 hb
  have bx := bx.bel hb
  have s3 := s2.bel hb
  clear hb hB2 s2
  go_wp2_with fail
  refine (KB.out _ s3).mono ?_
  rintro e w4 ⟨A4, c4_, rfl, a4, hb⟩
  have hB4 := kcall hB3 hb
  have bx := bx.bel hb
  have s4 := s3.bel hb
  have a3 := a3.bel hb
  have y0 := bx.cell (v := .int .i64 x1) 0 rfl
  have y1 := bx.cell (v := .int .i64 x2) 1 rfl
  clear hb hB3 s3
  go_wp2_with fail
  obtain ⟨i0, hi, hz0, hz1, hz2⟩ := info_parts Try_info41
  have HI := hide hi
  have S4 := hide s4
  have hN4 := hB4.size
  have hlt4 := bx.lt
  clear hi
  refine wp_cut (fun a a' w' => a' = (((((((a.put (some 74) (a'.tmps.getD 74 undef)).put (some 75) (a'.tmps.getD 75 undef)).put (some 76) (a'.tmps.getD 76 undef)).put (some 77) (a'.tmps.getD 77 undef)).put (some 78) (a'.tmps.getD 78 undef)).put (some 79) (a'.tmps.getD 79 undef)).put (some 15) (a'.tmps.getD 15 undef)) ∧ ∃ A' c', a'.tmps.getD 79 undef = .slice A' (l ++ [(x1, x2)]).length c' ∧ a'.tmps.getD 15 undef = .slice A' (l ++ [(x1, x2)]).length c' ∧ Sl bc 2 w' A' c' (l ++ [(x1, x2)]) ∧ Below w4.heap.size w4 w') ?_ ?_
  · have hgB : ∀ {W W' : World} {row : Option Nat}, W.grownBy W' row → W.heap.size ≤ W'.heap.size := fun h => h.size
    have hbc1 : ∀ x : Beat, ∀ u ∈ bc x, u.oneCell' = true := by intro x u hu; simp [bc] at hu; rcases hu with rfl | rfl <;> rfl
    go_region_law (first
      | (refine step_append (v := .slice (some ⟨_, 0, none⟩) 0 0) rfl (.tmp 74) (.tmp 75) 22 rfl rfl rfl (run_extend (f := bc) (base := w4.heap.size) (l1 := []) (l2 := l) Try.underlying22 HI.out hz0 hz1 hz2 rfl (by decide) (by first | exact (OwnL.fresh' (by simp) (by omega)).drew | exact ((OwnL.fresh' (by simp) (by omega)).alloc _).drew) (by first | exact (S4.out.alloc _).drew | exact ((S4.out.alloc _).alloc _).drew) (fun x _ => hbc1 x) (by simp [maxLen]; omega) (by simp; omega) (by simp <;> omega)) ?_
         rintro v' w' ⟨gO, gG, gB⟩
         have y0' := gcell (b := w.heap.size) (o := 0) (v := .int .i64 x1) gG (by simp; omega) (by simp [Value.ownBlock]; omega) (by simp [go_sem, y0, hlt4])
         have y1' := gcell (b := w.heap.size) (o := 1) (v := .int .i64 x2) gG (by simp; omega) (by simp [Value.ownBlock]; omega) (by simp [go_sem, y1, hlt4])
         have gN : w4.heap.size ≤ w'.heap.size := Nat.le_trans (by simp <;> omega) (hgB gG)
         have gBel : Below w4.heap.size w4 w' := Below.grown (by first | exact ((Below.refl _ _).alloc (Nat.le_refl _) _).drew | exact (((Below.refl _ _).alloc (Nat.le_refl _) _).alloc (by simp) _).drew) gG (by simp <;> omega) (fun k hk => by simp [Value.ownBlock] at hk; omega)
         try (have xB := Blk.grown (b := w4.heap.size + 1) (cs := #[.int .i64 x1, .int .i64 x2]) (ty := 41) (Blk.drew (Blk.new' (by simp))) gG (by simp [Value.ownBlock]))
         try (have xB := Blk.grown (b := w4.heap.size) (cs := #[.int .i64 x1, .int .i64 x2]) (ty := 41) (Blk.drew (Blk.alloc (Blk.new' (by simp)) _)) gG (by simp [Value.ownBlock])))
      | (refine step_append (v := v') (u := .slice (some ⟨_, 0, none⟩) 1 1) rfl (.tmp 76) (.tmp 78) 22 rfl rfl rfl (run_extend (f := bc) (base := w4.heap.size) (l1 := [] ++ l) (l2 := [(x1, x2)]) Try.underlying22 HI.out hz0 hz1 hz2 rfl (by decide) (by first | exact gO | exact gO.alloc _) (by first | exact Sl.one xB rfl rfl (by decide) (by decide) | exact Sl.one (Blk.new' rfl) rfl rfl (by decide) (by decide)) (fun x _ => hbc1 x) (by simp [maxLen]; omega) (by simp; omega) (by first | exact gN | exact Nat.le_trans gN (by simp) | omega)) ?_
         rintro v'' w'' ⟨gO2, gG2, gB2⟩
         have gBel2 : Below w4.heap.size w4 w'' := Below.grown (by first | exact gBel | exact gBel.alloc gN _) gG2 (by first | exact gN | exact Nat.le_trans gN (by simp)) (fun k hk => (gO.blk hk).1)))
    all_goals
      obtain ⟨A', c', rfl, hs'⟩ := gO2.sl
      exact ⟨by kernel_rfl, A', c', by kernel_rfl, by kernel_rfl, hs', gBel2⟩
  · rintro a' w5 ⟨ha, A', c', h79, h15, s5, hb⟩
    rw [h79, h15] at ha
    clear h79 h15
    generalize a'.tmps.getD 74 undef = v74 at ha
    generalize a'.tmps.getD 75 undef = v75 at ha
    generalize a'.tmps.getD 76 undef = v76 at ha
    generalize a'.tmps.getD 77 undef = v77 at ha
    generalize a'.tmps.getD 78 undef = v78 at ha
    subst ha
    have hB5 := kcall hB4 hb
    have bx := bx.bel hb
    have a3 := a3.bel hb
    have a4 := a4.bel hb
    have S5 := hide s5
    clear hb hB4 s5 y0 y1 S4 HI hz0 hz1 hz2 s4 hlt4 hN4
    simp only [List.length_append, List.length_cons, List.length_nil, Nat.zero_add] at KR2 KC ⊢
    rename_i K9 h9
    refine h9 _ _ ?_
    clear h9 K9
    (refine wp_seq_k (fun K hK => ?_); replace hK := hide hK; go_wp2_with fail; refine hK.out _ _ ?_; clear hK K)
    refine wp_seq_k (fun K hK => ?_)
    replace hK := hide hK
    refine wp_cut (fun a a' w' => a' = ((((((((((((((((((((a.put (some 81) (a'.tmps.getD 81 undef)).put (some 82) (a'.tmps.getD 82 undef)).put (some 17) (a'.tmps.getD 17 undef)).put (some 83) (a'.tmps.getD 83 undef)).put (some 84) (a'.tmps.getD 84 undef)).put (some 85) (a'.tmps.getD 85 undef)).put (some 86) (a'.tmps.getD 86 undef)).put (some 87) (a'.tmps.getD 87 undef)).put (some 88) (a'.tmps.getD 88 undef)).put (some 89) (a'.tmps.getD 89 undef)).put (some 90) (a'.tmps.getD 90 undef)).put (some 91) (a'.tmps.getD 91 undef)).put (some 92) (a'.tmps.getD 92 undef)).put (some 93) (a'.tmps.getD 93 undef)).put (some 94) (a'.tmps.getD 94 undef)).put (some 95) (a'.tmps.getD 95 undef)).put (some 96) (a'.tmps.getD 96 undef)).put (some 97) (a'.tmps.getD 97 undef)).put (some 98) (a'.tmps.getD 98 undef)).put (some 16) (a'.tmps.getD 16 undef)) ∧ ∃ Ac cc, ∃ fc : Nat → Bool, a'.tmps.getD 16 undef = .slice Ac 16 cc ∧ Sl bb 1 w' Ac cc ((List.range 16).map fc) ∧ (∀ n : Nat, isIn l (n : Int) M t = true → fc n = true) ∧ (∀ n : Nat, x1 ≠ (n : Int) → fc n = isIn l (n : Int) M t) ∧ Below w5.heap.size w5 w') ?_ ?_
    · cases hrl : rightB (l ++ [(x1, x2)])
      · rw [hrl] at KR2
        clear hrl
        go_wp2_with fail
        refine (KR2.out A' c' w5 S5.out).mono ?_
        rintro e w6 ⟨rfl, hb⟩
        have c4 := hide (a4.bel hb)
        replace hb := hide hb
        go_wp2_with fail
        exact ⟨by kernel_rfl, A4, c4_, fun n => isIn l (n : Int) M t, by kernel_rfl, c4.out, fun _ h => h, fun _ _ => rfl, hb.out⟩
      · have hz2 := rightB_chk hrl
        rw [hrl] at KR2
        have KC2 := hide (KC.out hz2)
        clear hrl hz2
        go_wp2_with fail
        refine (KR2.out A' c' w5 S5.out).mono ?_
        rintro e w6 ⟨rfl, hb⟩
        have S6 := hide (S5.out.bel hb)
        replace hb := hide hb
        go_wp2_with fail
        all_goals
          refine (KC2.out A' c' w6 S6.out).mono ?_
          rintro e w7 ⟨A7, c7, rfl, a7, hb7⟩
          have hb' := hide (hb.out.trans (hb7.mono hb.out.size))
          have s7 := hide a7
          clear hb hb7 a7
          go_wp2_with fail
          exact ⟨by kernel_rfl, A7, c7, fun n => isIn (l ++ [(x1, x2)]) (n : Int) M t, by kernel_rfl, s7.out, HBC.out, HCC.out, hb'.out⟩
    · rintro a' w6 ⟨ha, Ac, cc, fc, h16, sc, hbc, hcc, hb⟩
      rw [h16] at ha
      clear h16
      generalize a'.tmps.getD 81 undef = v81 at ha
      generalize a'.tmps.getD 82 undef = v82 at ha
      generalize a'.tmps.getD 17 undef = v17 at ha
      generalize a'.tmps.getD 83 undef = v83 at ha
      generalize a'.tmps.getD 84 undef = v84 at ha
      generalize a'.tmps.getD 85 undef = v85 at ha
      generalize a'.tmps.getD 86 undef = v86 at ha
      generalize a'.tmps.getD 87 undef = v87 at ha
      generalize a'.tmps.getD 88 undef = v88 at ha
      generalize a'.tmps.getD 89 undef = v89 at ha
      generalize a'.tmps.getD 90 undef = v90 at ha
      generalize a'.tmps.getD 91 undef = v91 at ha
      generalize a'.tmps.getD 92 undef = v92 at ha
      generalize a'.tmps.getD 93 undef = v93 at ha
      generalize a'.tmps.getD 94 undef = v94 at ha
      generalize a'.tmps.getD 95 undef = v95 at ha
      generalize a'.tmps.getD 96 undef = v96 at ha
      generalize a'.tmps.getD 97 undef = v97 at ha
      generalize a'.tmps.getD 98 undef = v98 at ha
      subst ha
      have hB6 := kcall hB5 hb
      have bx := bx.bel hb
      have a3 := a3.bel hb
      have a4 := a4.bel hb
      clear hb hB5 KC KR KR2 KA KB K15 HBC HCC S5
      refine hK.out _ _ ?_
      clear hK K
      have x0 := bx.cell (v := .int .i64 x1) 0 rfl
      have hbl := bx.lt
      generalize hfa : (fun n : Nat => isIn l (n : Int) q t) = fa at a3
      generalize hfb : (fun n : Nat => isIn l (n : Int) M t) = fb at a4
      have hab : ∀ n, fa n = true → fb n = true := fun n h => by rw [← hfa] at h; rw [← hfb]; exact HAB.out n h
      have hbc' : ∀ n, fb n = true → fc n = true := fun n h => by rw [← hfb] at h; exact hbc n h
      have hcc' : ∀ n : Nat, x1 ≠ (n : Int) → fc n = fb n := fun n h => by rw [← hfb]; exact hcc n h
      clear hbc hcc hfa hfb HAB
      have A3' := hide a3
      have A4' := hide a4
      have SC := hide sc
      have H1 := hide hab
      have H2 := hide hbc'
      have H3 := hide hcc'
      have hB6' := hide hB6
      have BX := hide bx
      clear hab hbc' hcc' a3 a4 sc x0 bx hB6
      go_wp2
      go_loopw [101] (fun i wr => ∃ k : Nat, k ≤ 16 ∧ i = .int .i64 k ∧ Below w6.heap.size w6 wr) (fun i _ => 16 - (intOf i).toNat)
      case atStart => exact ⟨0, by omega, rfl, Below.refl _ _⟩
      case round =>
        obtain ⟨k, hk, rfl, hb⟩ := hrel
        by_cases hlt : k < 16
        · obtain ⟨y3, g3, o3, hy3, -, rfl, hb3, d3⟩ := (A3'.out.bel hb).at_ (k := k) (by simpa using hlt)
          obtain ⟨y4, g4, o4, hy4, -, rfl, hb4, d4⟩ := (A4'.out.bel hb).at_ (k := k) (by simpa using hlt)
          obtain ⟨y5, g5, o5, hy5, -, rfl, hb5, d5⟩ := (SC.out.bel hb).at_ (k := k) (by simpa using hlt)
          have e3 : fa k = y3 := by simpa [List.getElem?_map, List.getElem?_range hlt] using hy3
          have e4 : fb k = y4 := by simpa [List.getElem?_map, List.getElem?_range hlt] using hy4
          have e5 : fc k = y5 := by simpa [List.getElem?_map, List.getElem?_range hlt] using hy5
          have q3 := d3 0 (.bool y3) rfl
          have q4 := d4 0 (.bool y4) rfl
          have q5 := d5 0 (.bool y5) rfl
          have x0 := (BX.out.bel hb).cell (v := .int .i64 x1) 0 rfl
          have hw : (y3 = false ∧ y4 = false ∧ y5 = false) ∨ (y3 = false ∧ y4 = false ∧ y5 = true ∧ ((k : Int) != x1) = false) ∨ (y3 = false ∧ y4 = true ∧ y5 = true) ∨ (y3 = true ∧ y4 = true ∧ y5 = true) := by
            have h1 := H1.out k
            have h2 := H2.out k
            have h3 := H3.out k
            rw [e3, e4] at h1
            rw [e4, e5] at h2
            rw [e4, e5] at h3
            exact four_ways _ _ _ _ h1 h2 (fun h => h3 (fun e => by rw [e] at h; simp at h))
          simp only [Nat.mul_one, Nat.add_zero] at q3 q4 q5
          clear d3 d4 d5 hy3 hy4 hy5 e3 e4 e5
          have hN := hb.size
          rcases hw with ⟨rfl, rfl, rfl⟩ | ⟨rfl, rfl, rfl, hx⟩ | ⟨rfl, rfl, rfl⟩ | ⟨rfl, rfl, rfl⟩
          all_goals
            go_wp2_with fail
            refine wp_still_all (by kernel_rfl) (by kernel_rfl) ?_
            repeat ((with_reducible refine wpStill_step (fun K hK => ?_)); go_simp; (try go_bits); (with_reducible refine hK _ ?_); clear hK K)
            (with_reducible refine wpStill_nil ?_)
            go_wp2
            go_roundw
            case rel => exact ⟨k + 1, by omega, by go_num, hb.drew⟩
            case measure => simp [intOf]; omega
        · go_wp2
          go_ret
          exact ⟨rfl, kcall hB6'.out hb⟩
end Go.Proofs.Ytbfgbkblblnbhaa

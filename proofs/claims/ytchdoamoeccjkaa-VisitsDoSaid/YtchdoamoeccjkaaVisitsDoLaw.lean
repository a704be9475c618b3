/-
  VisitsDo's walk.
-/
import Derived.Test.YtchdoamoeccjkaaVM7
import Derived.Test.YtchdoamoeccjkaaVM1
namespace Go.Proofs.Ytchdoamoeccjkaa
open Go.RowKit Go.Shelf Go.Mine Go.Mine.V
attribute [local go_sem] Oper.semAt_some

theorem Try_info40d : (Try.prog.info? 40).map (fun i => (i.zero, i.size, i.bytes)) = some (some (.agg #[.int .i64 0, .int .i64 0, .int .i64 0, .int .i64 0]), 4, 32) := by kernel_rfl
theorem viC_oneD (x : Vi) : ∀ u ∈ viC x, u.oneCell' = true := by
  intro u hu; simp [viC] at hu; rcases hu with rfl | rfl | rfl | rfl <;> rfl
set_option maxRecDepth 100000 in
set_option maxHeartbeats 8000000 in
theorem visitsDo_law (A : Option Addr) (c : Nat) (l : List Vi) (x : Vi) (other : Int) (w : World) (hS : Sl viC 4 w A c l) (hI : ∀ y ∈ l, ViS y) (hx : ViS x) (hreach : l.length * 32 ≤ 140737488351232) :
    Calls Try.prog 6 #[.slice A l.length c, viV x, .int .i64 other] w fun e w' => e = .returned (.bool true) ∧ Below w.heap.size w w' := by
  have KS := hide sane14_any
  have KR := hide (fun w (hS : Sl viC 4 w A c l) => right26_any A c l w hS)
  have hIM : ∀ y ∈ l ++ [x], ViS y := fun y hy => by
    rcases List.mem_append.1 hy with hy | hy
    · exact hI y hy
    · simp at hy; subst hy; exact hx
  have K18 := hide (fun A' c' w (hS : Sl viC 4 w A' c' (l ++ [x])) => by have := Check_any A' c' (l ++ [x]) w hS hIM; exact this)
  have KA := hide (fun who w (hS : Sl viC 4 w A c l) => by have := Sees16_any A c l who x.t w hS hI; unfold tup3 at this; exact this)
  have KB := hide (fun who A' c' w (hS : Sl viC 4 w A' c' (l ++ [x])) => by have := Sees16_any A' c' (l ++ [x]) who x.t w hS hIM; unfold tup3 at this; exact this)
  have HT := hide (chk_two (l := l ++ [x]))
  have HF := hide (fun (hz : chk l = 0) (hm : chk (l ++ [x]) = 0) => do_facts hz hm)
  have HO := hide (fun (hz : chk l = 0) (hm : chk (l ++ [x]) = 0) (hw : other ≠ x.who) => do_other hz hm hw)
  have HZ := hide (rightV_ok (l := l))
  have hlc := hS.le
  have hc := hS.max
  have hlm : (l ++ [x]).length = l.length + 1 := by simp
  rw [hlm] at K18 KB HT
  have HLM := hide hlm
  clear hlm
  obtain ⟨i0, hi, hz0, hz1, hz2⟩ := info_parts Try_info40d
  have HI := hide hi
  have hx1 : [x].length = 1 := rfl
  have B0 := kalloc (Below.refl w.heap.size w) (.cells #[.int .i64 x.t, .int .i64 x.who, .int .i64 x.k, .int .i64 x.g] 40)
  have b0 := Blk.new w #[.int .i64 x.t, .int .i64 x.who, .int .i64 x.k, .int .i64 x.g] 40
  have s0 := hS.alloc (.cells #[.int .i64 x.t, .int .i64 x.who, .int .i64 x.k, .int .i64 x.g] 40)
  unfold viV
  clear hi hIM hI hx hS hx1
  go_enter Try.func6, Try.ntmps6
  go_wp2_with fail
  generalize w.alloc (.cells #[.int .i64 x.t, .int .i64 x.who, .int .i64 x.k, .int .i64 x.g] 40) = w0 at *
  refine (KS.out _).mono ?_
  rintro e w1 ⟨rfl, hb⟩
  have B1 := kcall B0 hb
  have b1 := b0.bel hb
  have s1 := s0.bel hb
  have y0 := b1.cell (v := .int .i64 x.t) 0 rfl
  have y1 := b1.cell (v := .int .i64 x.who) 1 rfl
  have y2 := b1.cell (v := .int .i64 x.k) 2 rfl
  have y3 := b1.cell (v := .int .i64 x.g) 3 rfl
  have hlt1 := b1.lt
  clear hb B0 b0 s0 KS
  go_wp2_with fail
  have S4 := hide s1
  refine Go.Mine.wp_cut (fun a a' w' => a' = (((((((a.put (some 22) (a'.tmps.getD 22 undef)).put (some 23) (a'.tmps.getD 23 undef)).put (some 24) (a'.tmps.getD 24 undef)).put (some 25) (a'.tmps.getD 25 undef)).put (some 26) (a'.tmps.getD 26 undef)).put (some 27) (a'.tmps.getD 27 undef)).put (some 7) (a'.tmps.getD 7 undef)) ∧ ∃ A' c', a'.tmps.getD 27 undef = .slice A' (l ++ [x]).length c' ∧ a'.tmps.getD 7 undef = .slice A' (l ++ [x]).length c' ∧ Sl viC 4 w' A' c' (l ++ [x]) ∧ Below w1.heap.size w1 w') ?_ ?_
  · have hgB : ∀ {W W' : World} {row : Option Nat}, W.grownBy W' row → W.heap.size ≤ W'.heap.size := fun h => h.size
    go_region_law (first
      | (refine step_append (v := .slice (some ⟨_, 0, none⟩) 0 0) rfl (.tmp 22) (.tmp 23) 22 rfl rfl rfl (run_extend (f := viC) (base := w1.heap.size) (l1 := []) (l2 := l) Try.underlying22 HI.out hz0 hz1 hz2 rfl (by decide) (by first | exact (OwnL.fresh' (by simp) (by omega)).drew | exact ((OwnL.fresh' (by simp) (by omega)).alloc _).drew) (by first | exact (S4.out.alloc _).drew | exact ((S4.out.alloc _).alloc _).drew) (fun x _ => viC_oneD x) (by simp [maxLen]; omega) (by simp; omega) (by simp <;> omega)) ?_
         rintro v' w' ⟨gO, gG, gB⟩
         have y0' := gcell (b := w.heap.size) (o := 0) (v := .int .i64 x.t) gG (by simp; omega) (by simp [Value.ownBlock]; omega) (by simp [go_sem, y0, hlt1])
         have y1' := gcell (b := w.heap.size) (o := 1) (v := .int .i64 x.who) gG (by simp; omega) (by simp [Value.ownBlock]; omega) (by simp [go_sem, y1, hlt1])
         have y2' := gcell (b := w.heap.size) (o := 2) (v := .int .i64 x.k) gG (by simp; omega) (by simp [Value.ownBlock]; omega) (by simp [go_sem, y2, hlt1])
         have y3' := gcell (b := w.heap.size) (o := 3) (v := .int .i64 x.g) gG (by simp; omega) (by simp [Value.ownBlock]; omega) (by simp [go_sem, y3, hlt1])
         have gN : w1.heap.size ≤ w'.heap.size := Nat.le_trans (by simp <;> omega) (hgB gG)
         have gBel : Below w1.heap.size w1 w' := Below.grown (by first | exact ((Below.refl _ _).alloc (Nat.le_refl _) _).drew | exact (((Below.refl _ _).alloc (Nat.le_refl _) _).alloc (by simp) _).drew) gG (by simp <;> omega) (fun k hk => by simp [Value.ownBlock] at hk; omega)
         try (have xB := Blk.grown (b := w1.heap.size + 1) (cs := #[.int .i64 x.t, .int .i64 x.who, .int .i64 x.k, .int .i64 x.g]) (ty := 40) (Blk.drew (Blk.new' (by simp))) gG (by simp [Value.ownBlock]))
         try (have xB := Blk.grown (b := w1.heap.size) (cs := #[.int .i64 x.t, .int .i64 x.who, .int .i64 x.k, .int .i64 x.g]) (ty := 40) (Blk.drew (Blk.alloc (Blk.new' (by simp)) _)) gG (by simp [Value.ownBlock])))
      | (refine step_append (v := v') (u := .slice (some ⟨_, 0, none⟩) 1 1) rfl (.tmp 24) (.tmp 26) 22 rfl rfl rfl (run_extend (f := viC) (base := w1.heap.size) (l1 := [] ++ l) (l2 := [x]) Try.underlying22 HI.out hz0 hz1 hz2 rfl (by decide) (by first | exact gO | exact gO.alloc _) (by first | exact Sl.one xB rfl rfl (by decide) (by decide) | exact Sl.one (Blk.new' rfl) rfl rfl (by decide) (by decide)) (fun x _ => viC_oneD x) (by simp [maxLen]; omega) (by simp; omega) (by first | exact gN | exact Nat.le_trans gN (by simp) | omega)) ?_
         rintro v'' w'' ⟨gO2, gG2, gB2⟩
         have gBel2 : Below w1.heap.size w1 w'' := Below.grown (by first | exact gBel | exact gBel.alloc gN _) gG2 (by first | exact gN | exact Nat.le_trans gN (by simp)) (fun k hk => (gO.blk hk).1)))
    all_goals
      obtain ⟨A', c', rfl, hs'⟩ := gO2.sl
      exact ⟨by kernel_rfl, A', c', by kernel_rfl, by kernel_rfl, hs', gBel2⟩
  · rintro a' w5 ⟨ha, A', c', h27, h7, sM, hb⟩
    rw [h27, h7, HLM.out] at ha
    clear h27 h7
    generalize a'.tmps.getD 22 undef = v22 at ha
    generalize a'.tmps.getD 23 undef = v23 at ha
    generalize a'.tmps.getD 24 undef = v24 at ha
    generalize a'.tmps.getD 25 undef = v25 at ha
    generalize a'.tmps.getD 26 undef = v26 at ha
    subst ha
    have B5 := kcall B1 hb
    have b5 := b1.bel hb
    have s5 := s1.bel hb
    clear hb B1 b1 s1 y0 y1 y2 y3 hlt1 S4 HI hz0 hz1 hz2
    rename_i K9 h9
    refine h9 _ _ ?_
    clear h9
    have y0 := b5.cell (v := .int .i64 x.t) 0 rfl
    have y1 := b5.cell (v := .int .i64 x.who) 1 rfl
    have y2 := b5.cell (v := .int .i64 x.k) 2 rfl
    have y3 := b5.cell (v := .int .i64 x.g) 3 rfl
    have HB5 := hide B5
    clear B5 HLM
    rcases Bool.eq_false_or_eq_true (rightV l) with hR | hR
    · have KR1 := hide (by have := KR.out w5 s5; rw [hR] at this; exact this)
      obtain ⟨hl40, hz⟩ := HZ.out hR
      clear KR HZ hR y0 y1 y2 y3
      go_wp2_with fail
      refine KR1.out.mono ?_
      rintro e w6 ⟨rfl, hb⟩
      have B6 := hide (kcall HB5.out hb)
      have b6 := b5.bel hb
      have s6 := s5.bel hb
      have sM := sM.bel hb
      clear hb HB5 b5 s5 KR1
      by_cases hlong : 40 < l.length + 1
      · have gl : decide ((40 : Int) < (l.length : Int) + 1) = true := by simp; omega
        clear HO HF KA KB K18 hz
        go_wp2
        go_ret
        exact ⟨rfl, B6.out⟩
      · have gl : decide ((40 : Int) < (l.length : Int) + 1) = false := by simp; omega
        rcases HT.out (by omega) with hm | hm
        · have KM := hide (by have := K18.out A' c' w6 sM; rw [hm] at this; exact this)
          obtain ⟨f1, f2, f3⟩ := HF.out hz hm
          clear K18 HF HT
          go_wp2_with fail
          refine KM.out.mono ?_
          rintro e w7 ⟨rfl, hb⟩
          have B7 := hide (kcall B6.out hb)
          have b7 := b6.bel hb
          have s7 := s6.bel hb
          have sM := sM.bel hb
          have y0 := b7.cell (v := .int .i64 x.t) 0 rfl
          have y1 := b7.cell (v := .int .i64 x.who) 1 rfl
          clear hb B6 b6 s6 KM
          have KA1 := hide (by have := KA.out x.who w7 s7; rw [f1] at this; exact this)
          have KB1 := hide (fun w (hS : Sl viC 4 w A' c' (l ++ [x])) => by have := KB.out x.who A' c' w hS; rw [f2] at this; exact this)
          have F3 := hide f3
          clear f1 f2 f3
          obtain ⟨was, hwas⟩ : ∃ was, seesO l x.who x.t = was := ⟨_, rfl⟩
          obtain ⟨is, his⟩ : ∃ is, seesO (l ++ [x]) x.who x.t = is := ⟨_, rfl⟩
          obtain ⟨now, hnow⟩ : ∃ now, seesG (l ++ [x]) x.who x.t = now := ⟨_, rfl⟩
          rw [hwas] at KA1 F3
          rw [his, hnow] at KB1
          rw [his, hnow] at F3
          clear hwas his hnow
          go_wp2_with fail
          refine KA1.out.mono ?_
          rintro e w8 ⟨rfl, hb⟩
          have B8 := hide (kcall B7.out hb)
          have b8 := b7.bel hb
          have s8 := s7.bel hb
          have sM := sM.bel hb
          have y0 := b8.cell (v := .int .i64 x.t) 0 rfl
          have y1 := b8.cell (v := .int .i64 x.who) 1 rfl
          clear hb B7 b7 s7 KA1
          go_wp2_with fail
          refine (KB1.out _ sM).mono ?_
          rintro e w9 ⟨rfl, hb⟩
          have B9 := hide (kcall B8.out hb)
          have b9 := b8.bel hb
          have s9 := s8.bel hb
          have sM := sM.bel hb
          have y0 := b9.cell (v := .int .i64 x.t) 0 rfl
          have y1 := b9.cell (v := .int .i64 x.who) 1 rfl
          have y2 := b9.cell (v := .int .i64 x.k) 2 rfl
          have y3 := b9.cell (v := .int .i64 x.g) 3 rfl
          clear hb B8 b8 s8 KB1
          rcases F3.out with ⟨hk, p, q, r⟩ | ⟨hk, p, q⟩ | ⟨hk, p, q⟩ | ⟨hk, p, q⟩
          · subst p q
            have k1 : (x.k == 1) = true := by simp [hk]
            have k2 : (now != x.g) = false := by simp [r]
            clear F3 hk r
            by_cases hot : other = x.who
            · have go : (other == x.who) = true := by simp [hot]
              clear hot HO
              go_wp2
              go_ret
              exact ⟨rfl, B9.out⟩
            · have go : (other == x.who) = false := by simp [hot]
              obtain ⟨o1, o2, o3⟩ := HO.out hz hm hot
              have KB2 := hide (fun A' c' w (hS : Sl viC 4 w A' c' (l ++ [x])) => by have := KB.out other A' c' w hS; rw [o1, o2, o3] at this; exact this)
              have KA2 := hide (KA.out other)
              clear HO o1 o2 o3 hot KA KB hz hm
              generalize seesG l other x.t = r1 at *
              generalize seesO l other x.t = r2 at *
              generalize seesE l other x.t = r3 at *
              go_wp2_with fail
              refine (KA2.out _ s9).mono ?_
              rintro e w10 ⟨rfl, hb⟩
              have B10 := hide (kcall B9.out hb)
              have b10 := b9.bel hb
              have sM := sM.bel hb
              have y0 := b10.cell (v := .int .i64 x.t) 0 rfl
              clear hb B9 b9 s9 KA2
              go_wp2_with fail
              refine (KB2.out _ _ _ sM).mono ?_
              rintro e w11 ⟨rfl, hb⟩
              have B11 := hide (kcall B10.out hb)
              clear hb B10 b10 sM KB2 y0
              have q1 : (r1 == r1) = true := by simp
              have q2 : (r2 == r2) = true := by simp
              have q3 : (r3 == r3) = true := by simp
              go_wp2
              go_ret
              exact ⟨ret_bool (by simp), B11.out⟩
          · have k1 : (x.k == 1) = false := by simp [hk]
            have k2 : (x.k == 2) = true := by simp [hk]
            subst p
            have k3 : (is != is) = false := by simp
            cases is
            · clear F3 hk q
              by_cases hot : other = x.who
              · have go : (other == x.who) = true := by simp [hot]
                clear hot HO
                go_wp2
                go_ret
                exact ⟨rfl, B9.out⟩
              · have go : (other == x.who) = false := by simp [hot]
                obtain ⟨o1, o2, o3⟩ := HO.out hz hm hot
                have KB2 := hide (fun A' c' w (hS : Sl viC 4 w A' c' (l ++ [x])) => by have := KB.out other A' c' w hS; rw [o1, o2, o3] at this; exact this)
                have KA2 := hide (KA.out other)
                clear HO o1 o2 o3 hot KA KB hz hm
                generalize seesG l other x.t = r1 at *
                generalize seesO l other x.t = r2 at *
                generalize seesE l other x.t = r3 at *
                go_wp2_with fail
                refine (KA2.out _ s9).mono ?_
                rintro e w10 ⟨rfl, hb⟩
                have B10 := hide (kcall B9.out hb)
                have b10 := b9.bel hb
                have sM := sM.bel hb
                have y0 := b10.cell (v := .int .i64 x.t) 0 rfl
                clear hb B9 b9 s9 KA2
                go_wp2_with fail
                refine (KB2.out _ _ _ sM).mono ?_
                rintro e w11 ⟨rfl, hb⟩
                have B11 := hide (kcall B10.out hb)
                clear hb B10 b10 sM KB2 y0
                have q1 : (r1 == r1) = true := by simp
                have q2 : (r2 == r2) = true := by simp
                have q3 : (r3 == r3) = true := by simp
                go_wp2
                go_ret
                exact ⟨ret_bool (by simp), B11.out⟩
            · have k4 : (now != x.g) = false := by simp [q rfl]
              clear F3 hk q
              by_cases hot : other = x.who
              · have go : (other == x.who) = true := by simp [hot]
                clear hot HO
                go_wp2
                go_ret
                exact ⟨rfl, B9.out⟩
              · have go : (other == x.who) = false := by simp [hot]
                obtain ⟨o1, o2, o3⟩ := HO.out hz hm hot
                have KB2 := hide (fun A' c' w (hS : Sl viC 4 w A' c' (l ++ [x])) => by have := KB.out other A' c' w hS; rw [o1, o2, o3] at this; exact this)
                have KA2 := hide (KA.out other)
                clear HO o1 o2 o3 hot KA KB hz hm
                generalize seesG l other x.t = r1 at *
                generalize seesO l other x.t = r2 at *
                generalize seesE l other x.t = r3 at *
                go_wp2_with fail
                refine (KA2.out _ s9).mono ?_
                rintro e w10 ⟨rfl, hb⟩
                have B10 := hide (kcall B9.out hb)
                have b10 := b9.bel hb
                have sM := sM.bel hb
                have y0 := b10.cell (v := .int .i64 x.t) 0 rfl
                clear hb B9 b9 s9 KA2
                go_wp2_with fail
                refine (KB2.out _ _ _ sM).mono ?_
                rintro e w11 ⟨rfl, hb⟩
                have B11 := hide (kcall B10.out hb)
                clear hb B10 b10 sM KB2 y0
                have q1 : (r1 == r1) = true := by simp
                have q2 : (r2 == r2) = true := by simp
                have q3 : (r3 == r3) = true := by simp
                go_wp2
                go_ret
                exact ⟨ret_bool (by simp), B11.out⟩
          · subst p q
            have k1 : (x.k == 1) = false := by simp [hk]
            have k2 : (x.k == 2) = false := by simp [hk]
            have k3 : (x.k == 3) = true := by simp [hk]
            clear F3 hk
            by_cases hot : other = x.who
            · have go : (other == x.who) = true := by simp [hot]
              clear hot HO
              go_wp2
              go_ret
              exact ⟨rfl, B9.out⟩
            · have go : (other == x.who) = false := by simp [hot]
              obtain ⟨o1, o2, o3⟩ := HO.out hz hm hot
              have KB2 := hide (fun A' c' w (hS : Sl viC 4 w A' c' (l ++ [x])) => by have := KB.out other A' c' w hS; rw [o1, o2, o3] at this; exact this)
              have KA2 := hide (KA.out other)
              clear HO o1 o2 o3 hot KA KB hz hm
              generalize seesG l other x.t = r1 at *
              generalize seesO l other x.t = r2 at *
              generalize seesE l other x.t = r3 at *
              go_wp2_with fail
              refine (KA2.out _ s9).mono ?_
              rintro e w10 ⟨rfl, hb⟩
              have B10 := hide (kcall B9.out hb)
              have b10 := b9.bel hb
              have sM := sM.bel hb
              have y0 := b10.cell (v := .int .i64 x.t) 0 rfl
              clear hb B9 b9 s9 KA2
              go_wp2_with fail
              refine (KB2.out _ _ _ sM).mono ?_
              rintro e w11 ⟨rfl, hb⟩
              have B11 := hide (kcall B10.out hb)
              clear hb B10 b10 sM KB2 y0
              have q1 : (r1 == r1) = true := by simp
              have q2 : (r2 == r2) = true := by simp
              have q3 : (r3 == r3) = true := by simp
              go_wp2
              go_ret
              exact ⟨ret_bool (by simp), B11.out⟩
          · subst p q
            have k1 : (x.k == 1) = false := by simp [hk]
            have k2 : (x.k == 2) = false := by simp [hk]
            have k3 : (x.k == 3) = false := by simp [hk]
            have k4 : (x.k == 4) = true := by simp [hk]
            clear F3 hk
            by_cases hot : other = x.who
            · have go : (other == x.who) = true := by simp [hot]
              clear hot HO
              go_wp2
              go_ret
              exact ⟨rfl, B9.out⟩
            · have go : (other == x.who) = false := by simp [hot]
              obtain ⟨o1, o2, o3⟩ := HO.out hz hm hot
              have KB2 := hide (fun A' c' w (hS : Sl viC 4 w A' c' (l ++ [x])) => by have := KB.out other A' c' w hS; rw [o1, o2, o3] at this; exact this)
              have KA2 := hide (KA.out other)
              clear HO o1 o2 o3 hot KA KB hz hm
              generalize seesG l other x.t = r1 at *
              generalize seesO l other x.t = r2 at *
              generalize seesE l other x.t = r3 at *
              go_wp2_with fail
              refine (KA2.out _ s9).mono ?_
              rintro e w10 ⟨rfl, hb⟩
              have B10 := hide (kcall B9.out hb)
              have b10 := b9.bel hb
              have sM := sM.bel hb
              have y0 := b10.cell (v := .int .i64 x.t) 0 rfl
              clear hb B9 b9 s9 KA2
              go_wp2_with fail
              refine (KB2.out _ _ _ sM).mono ?_
              rintro e w11 ⟨rfl, hb⟩
              have B11 := hide (kcall B10.out hb)
              clear hb B10 b10 sM KB2 y0
              have q1 : (r1 == r1) = true := by simp
              have q2 : (r2 == r2) = true := by simp
              have q3 : (r3 == r3) = true := by simp
              go_wp2
              go_ret
              exact ⟨ret_bool (by simp), B11.out⟩
        · have KM := hide (fun w (hS : Sl viC 4 w A' c' (l ++ [x])) => by have := K18.out A' c' w hS; rw [hm] at this; exact this)
          clear K18 HF HT HO KA KB hz hm
          go_wp2_with fail
          refine (KM.out _ sM).mono ?_
          rintro e w7 ⟨rfl, hb⟩
          have B7 := hide (kcall B6.out hb)
          have sM := sM.bel hb
          clear hb B6 b6 s6
          go_wp2_with fail
          refine (KM.out _ sM).mono ?_
          rintro e w8 ⟨rfl, hb⟩
          have B8 := hide (kcall B7.out hb)
          clear hb B7 sM KM
          go_wp2
          go_ret
          exact ⟨rfl, B8.out⟩
    · have KR1 := hide (by have := KR.out w5 s5; rw [hR] at this; exact this)
      clear KR HZ hR HO HF HT KA KB K18 y0 y1 y2 y3
      go_wp2_with fail
      refine KR1.out.mono ?_
      rintro e w6 ⟨rfl, hb⟩
      have B6 := hide (kcall HB5.out hb)
      clear hb HB5 b5 s5 sM KR1
      go_wp2
      go_ret
      exact ⟨rfl, B6.out⟩
end Go.Proofs.Ytchdoamoeccjkaa

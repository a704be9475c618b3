/-
  HealthAlone: its walk: true, whatever the input.
-/
import Derived.Test.YtbfgbkblblnbhaaHAlone
namespace Go.Proofs.Ytbfgbkblblnbhaa
open Go.RowKit Go.Mine Go.Mine.H

theorem alone_bad (A : Option Addr) (c : Nat) (l : List Beat) (n q t : Int) (w : World) (hS : Sl bc 2 w A c l) (h : rightB l = false) : Calls Try.prog 7 #[.slice A l.length c, .int .i64 n, .int .i64 q, .int .i64 t] w fun e w' => e = .returned (.bool true) ∧ Below w.heap.size w w' := by
  have K15 := hide sane_any
  have KR := hide (fun w (hS : Sl bc 2 w A c l) => right_any A c l w hS)
  rw [h] at KR
  clear h
  go_enter Try.func7, Try.ntmps7
  go_wp2_with fail
  refine (K15.out _).mono ?_
  rintro e w1 ⟨rfl, hb⟩
  have hB1 := kcall (Below.refl w.heap.size w) hb
  have s1 := hS.bel hb
  clear hb
  go_wp2_with fail
  refine (KR.out _ s1).mono ?_
  rintro e w2 ⟨rfl, hb⟩
  have hB2 := kcall hB1 hb
  clear hb
  go_wp2
  go_ret
  exact ⟨rfl, hB2⟩

set_option maxRecDepth 100000 in
set_option maxHeartbeats 8000000 in
theorem alone_in (A : Option Addr) (c : Nat) (l : List Beat) (n q t : Int) (w : World) (hS : Sl bc 2 w A c l) (h : rightB l = true) : Calls Try.prog 7 #[.slice A l.length c, .int .i64 n, .int .i64 q, .int .i64 t] w fun e w' => e = .returned (.bool true) ∧ Below w.heap.size w w' := by
  have K15 := hide sane_any
  have KR := hide (fun w (hS : Sl bc 2 w A c l) => right_any A c l w hS)
  rw [h] at KR
  have hll : l.length ≤ 40 := by simp [rightB] at h; exact h.1
  have KA := hide (fun w (hS : Sl bc 2 w A c l) => Heard_any A c l n q t w hS)
  have KB := hide (fun A' c' w (hS : Sl bc 2 w A' c' (l.filter (earP n t))) => Heard_any A' c' (l.filter (earP n t)) n q t w hS)
  have KS := hide (fun w (hS : Sl bc 2 w A c l) => Spans_any A c l n q w hS)
  have KT := hide (fun A' c' w (hS : Sl bc 2 w A' c' (l.filter (ownP n))) => Spans_any A' c' (l.filter (ownP n)) n q w hS)
  unfold heardV at KA KB
  rw [heard_early h] at KB
  rw [spansL_own h, spansE_own h] at KT
  generalize (heardR l n q t).1 = ha at KA KB
  generalize (heardR l n q t).2 = he at KA KB
  generalize spansL l n q = sl at KS KT
  generalize spansE l n q = se at KS KT
  have KE := hide (fun A B c d w (hA : Sl bc 2 w A c sl) (hB : Sl bc 2 w B d sl) => sameSpans_any A B c d sl sl w hA hB)
  obtain ⟨i0, hi, hz0, hz1, hz2⟩ := info_parts Try_info41'
  have HI := hide hi
  have hlc := hS.le
  have hc := hS.max
  clear hi h
  have hB0 := Below.refl w.heap.size w
  go_enter Try.func7, Try.ntmps7
  go_wp2_with fail
  refine (K15.out _).mono ?_
  rintro e w1 ⟨rfl, hb⟩
  have hB1 := kcall hB0 hb
  have s1 := hS.bel hb
  clear hb hB0
  go_wp2_with fail
  refine (KR.out _ s1).mono ?_
  rintro e w2 ⟨rfl, hb⟩
  have hB2 := kcall hB1 hb
  have s2 := hide (s1.bel hb)
  clear hb hB1 s1
  go_wp2_with fail
  go_loopw [9, 10, 28] (fun v u i wr => ∃ k : Nat, k ≤ l.length ∧ i = .int .i64 k ∧ Below w2.heap.size w2 wr ∧ OwnL bc 2 41 wr w2.heap.size v ((l.take k).filter (ownP n)) ∧ OwnL bc 2 41 wr w2.heap.size u ((l.take k).filter (earP n t)) ∧ (∀ g, v.ownBlock = some g → u.ownBlock ≠ some g)) (fun _ _ i _ => l.length - (intOf i).toNat)
  case atStart => exact ⟨0, by omega, rfl, Below.refl _ _, OwnL.nil _ _ _ _ _, OwnL.nil _ _ _ _ _, by simp [Value.ownBlock]⟩
  case round =>
    obtain ⟨k, hk, rfl, hb, hO, hU, hd⟩ := hrel
    by_cases hlt : k < l.length
    · obtain ⟨x, b, off, hx, hdr, rfl, hbw, c1, c2⟩ := Sl.two s2.out hb hlt
      have hbr : b < wr.heap.size := Nat.lt_of_lt_of_le hbw hb.size
      have hN := hb.size
      clear hdr
      have l1 := filter_take_len (ownP n) l k
      have l2 := filter_take_len (earP n t) l k
      by_cases hn : x.1 = n
      · have g1 : (x.1 == n) = true := by simp [hn]
        have e1 := hide (filter_take_yes (ownP n) hx (by simp [ownP, hn]))
        have HO := hide hO
        have HU := hide hU
        have HD := hide hd
        have push1 : ∀ (v' : Value) (w3 : World), OwnL bc 2 41 w3 w2.heap.size v' ((l.take k).filter (ownP n) ++ [x]) → ((wr.alloc (Obj.cells #[.int .i64 x.1, .int .i64 x.2] 41)).alloc (Obj.cells #[.int .i64 x.1, .int .i64 x.2] 41)).grownBy w3 _ → (∀ g, v'.ownBlock = some g → Value.ownBlock _ = some g ∨ wr.heap.size + 1 + 1 ≤ g) →
            Blk w3 wr.heap.size 41 #[.int .i64 x.1, .int .i64 x.2] ∧ OwnL bc 2 41 w3 w2.heap.size _ ((l.take k).filter (earP n t)) ∧ (∀ g, v'.ownBlock = some g → Value.ownBlock _ ≠ some g) ∧ Below w2.heap.size w2 w3 := fun v' w3 h1 h2 h3 =>
          ⟨Blk.grown ((Blk.new wr _ _).alloc _) h2 (fun e => by have := (HO.out.blk e.symm).2.1; omega),
           ((HU.out.alloc _).alloc _).grown h2 (fun g hg e => HD.out g e.symm hg),
           fun g hg hu => by
             rcases h3 g hg with h | h
             · exact HD.out g h hu
             · have := (HU.out.blk hu).2.1; omega,
           Below.grown ((hb.alloc hN _).alloc (by simp; omega) _) h2 (by simp; omega) (fun g hg => (HO.out.blk hg).1)⟩
        have P1 := hide push1
        clear push1
        by_cases ht : x.2 ≤ t
        · have e2 := hide (filter_take_yes (earP n t) hx (by simp [earP, hn, ht]))
          generalize (l.take k).filter (ownP n) = la at *
          generalize (l.take k).filter (earP n t) = lb at *
          clear hO hU hd hx hn
          go_wp2_with (at_builtin; refine wpList_push (y := x) (l := la) rfl (.tmp 36) (.tmp 38) 22 rfl Try.underlying22 HI.out hz0 hz1 hz2 rfl (by decide) rfl ((HO.out.alloc _).alloc _) rfl (new_row1 _ _ _) rfl rfl ?_ ?_ ?_ ?_ ?_)
          · simp [Value.oneCell', bc]
          · simp only [maxLen]; omega
          · omega
          · first | omega | (simp; omega)
          · intro v' w3 hO3 hgr hat
            obtain ⟨bx, hU3, hd3, hb3⟩ := P1.out v' w3 hO3 hgr hat
            have hW3 := hb3.size
            have x0 := bx.cell (v := .int .i64 x.1) 0 rfl
            have x1 := bx.cell (v := .int .i64 x.2) 1 rfl
            have hbl := bx.lt
            replace hO3 := hide hO3
            replace hU3 := hide hU3
            replace hd3 := hide hd3
            clear hgr hat bx P1 HO HU HD
            go_wp2_with (at_builtin; refine wpList_push (y := x) (l := lb) rfl (.tmp 44) (.tmp 46) 22 rfl Try.underlying22 HI.out hz0 hz1 hz2 rfl (by decide) rfl (hU3.out.alloc _) rfl (heap_new _ _) rfl rfl ?_ ?_ ?_ ?_ ?_)
            · simp [Value.oneCell', bc]
            · simp only [maxLen]; omega
            · omega
            · first | omega | (simp; omega)
            · intro u' w4 hU4 hgr hat
              have hO4 := hide ((hO3.out.alloc (Obj.cells #[.int .i64 x.1, .int .i64 x.2] 41)).grown hgr (fun g hg e => hd3.out g hg e.symm))
              have hd4 : ∀ g, v'.ownBlock = some g → u'.ownBlock ≠ some g := fun g hg hu => by
                rcases hat g hu with h | h
                · exact hd3.out g hg h
                · have := (hO3.out.blk hg).2.1; omega
              have hb4 := Below.grown (hb3.alloc hW3 (Obj.cells #[.int .i64 x.1, .int .i64 x.2] 41)) hgr (by simp; omega) (fun g hg => (hU3.out.blk hg).1)
              replace hU4 := hide hU4
              replace hd4 := hide hd4
              clear hgr hat
              go_wp2
              go_roundw
              case rel => exact ⟨k + 1, by omega, by go_num, hb4, by rw [e1.out]; exact hO4.out, by rw [e2.out]; exact hU4.out, hd4.out⟩
              case measure => simp [intOf]; omega
        · have e2 := hide (filter_take_no (earP n t) hx (by simp [earP, ht]))
          generalize (l.take k).filter (ownP n) = la at *
          generalize (l.take k).filter (earP n t) = lb at *
          clear hO hU hd hx hn
          go_wp2_with (at_builtin; refine wpList_push (y := x) (l := la) rfl (.tmp 36) (.tmp 38) 22 rfl Try.underlying22 HI.out hz0 hz1 hz2 rfl (by decide) rfl ((HO.out.alloc _).alloc _) rfl (new_row1 _ _ _) rfl rfl ?_ ?_ ?_ ?_ ?_)
          · simp [Value.oneCell', bc]
          · simp only [maxLen]; omega
          · omega
          · first | omega | (simp; omega)
          · intro v' w3 hO3 hgr hat
            obtain ⟨bx, hU3, hd3, hb3⟩ := P1.out v' w3 hO3 hgr hat
            have x1 := bx.cell (v := .int .i64 x.2) 1 rfl
            have hbl := bx.lt
            replace hO3 := hide hO3
            replace hU3 := hide hU3
            replace hd3 := hide hd3
            clear hgr hat bx P1 HO HU HD
            go_wp2
            go_roundw
            case rel => exact ⟨k + 1, by omega, by go_num, hb3, by rw [e1.out]; exact hO3.out, by rw [e2.out]; exact hU3.out, hd3.out⟩
            case measure => simp [intOf]; omega
      · have g1 : (x.1 == n) = false := by simp [hn]
        have e1 := filter_take_no (ownP n) hx (by simp [ownP, hn])
        have e2 := filter_take_no (earP n t) hx (by simp [earP, hn])
        have H := hide (show OwnL bc 2 41 wr w2.heap.size _ ((l.take (k + 1)).filter (ownP n)) ∧ OwnL bc 2 41 wr w2.heap.size _ ((l.take (k + 1)).filter (earP n t)) by rw [e1, e2]; exact ⟨hO, hU⟩)
        have HD := hide hd
        clear e1 e2 hO hU hx hn hd
        go_wp2
        go_roundw
        case rel => exact ⟨k + 1, by omega, by go_num, hb.alloc hN _, H.out.1.alloc _, H.out.2.alloc _, HD.out⟩
        case measure => simp [intOf]; omega
    · obtain rfl : k = l.length := by omega
      rw [List.take_length] at hO hU
      obtain ⟨A3, c3, rfl, hs3⟩ := hO.sl
      obtain ⟨A4, c4, rfl, hs4⟩ := hU.sl
      have hB3 : Below w.heap.size w wr := kcall hB2 hb
      have s3 := s2.out.bel hb
      clear hO hU hd hB2 s2 hb HI
      go_wp2_with fail
      refine (KA.out wr s3).mono ?_
      rintro e w3 ⟨rfl, hb⟩
      have a3 := hs3.bel hb
      have a4 := hs4.bel hb
      have s4 := s3.bel hb
      have hB4 := kcall hB3 hb
      clear hb hs3 hs4 s3 hB3
      go_wp2_with fail
      refine (KB.out A4 c4 w3 a4).mono ?_
      rintro e w4 ⟨rfl, hb⟩
      have a3 := a3.bel hb
      have s4 := s4.bel hb
      have hB5 := kcall hB4 hb
      clear hb a4 hB4
      go_wp2_with fail
      refine (KS.out w4 s4).mono ?_
      rintro e w5 ⟨A5, c5, rfl, a5, hb⟩
      have a3 := a3.bel hb
      have hB6 := kcall hB5 hb
      clear hb s4 hB5
      go_wp2_with fail
      refine (KT.out A3 c3 w5 a3).mono ?_
      rintro e w6 ⟨A6, c6, rfl, a6, hb⟩
      have a5 := a5.bel hb
      have hB7 := kcall hB6 hb
      clear hb a3 hB6
      go_wp2_with fail
      refine (KE.out A5 A6 c5 c6 w6 a5 a6).mono ?_
      rintro e w7 ⟨rfl, hb⟩
      have hB8 := kcall hB7 hb
      clear hb
      go_wp2
      go_ret
      exact ⟨rfl, hB8⟩
theorem healthAlone_law (A : Option Addr) (c : Nat) (l : List Beat) (n q t : Int) (w : World) (hS : Sl bc 2 w A c l) : Calls Try.prog 7 #[.slice A l.length c, .int .i64 n, .int .i64 q, .int .i64 t] w fun e w' => e = .returned (.bool true) ∧ Below w.heap.size w w' := by
  cases h : rightB l
  · exact alone_bad A c l n q t w hS h
  · exact alone_in A c l n q t w hS h
end Go.Proofs.Ytbfgbkblblnbhaa

/-
  hansardref13.place: a number placed into a list of numbers.
-/
import Derived.Test.YtbfgbkblblnbhaaSOf
namespace Go.Proofs.Ytbfgbkblblnbhaa
open Go.RowKit Go.Mine Go.Mine.H Go.Mine.S

theorem Try_info3 : (Try.prog.info? 3).map (fun i => (i.zero, i.size, i.bytes)) = some (some (.int .i64 0), 1, 8) := by kernel_rfl
theorem flt_yes {α : Type} (p : α → Bool) {l : List α} {k : Nat} {x : α} (hx : l[k]? = some x) (h : p x = true) : (l.take (k + 1)).filter p = (l.take k).filter p ++ [x] := by
  rw [take_of_get hx, List.filter_append]; simp [h]
theorem flt_no {α : Type} (p : α → Bool) {l : List α} {k : Nat} {x : α} (hx : l[k]? = some x) (h : p x = false) : (l.take (k + 1)).filter p = (l.take k).filter p := by
  rw [take_of_get hx, List.filter_append]; simp [h]
theorem flt_len {α : Type} (p : α → Bool) (l : List α) (k : Nat) : ((l.take k).filter p).length ≤ l.length :=
  Nat.le_trans (List.length_filter_le _ _) (List.length_take_le' _ _)
theorem not_in_next {l : List Int} {k : Nat} {x n : Int} (hx : l[k]? = some x) (h : n ∉ l.take k) (hn : x ≠ n) : n ∉ l.take (k + 1) := by
  rw [take_of_get hx]
  intro h'
  rcases List.mem_append.1 h' with h' | h'
  · exact h h'
  · simp at h'; exact hn h'.symm
theorem own_apart {α : Type} {f : α → List Value} {sz : Nat} {e : TypeId} {w : World} {base N : Nat} {v v' u : Value} {l : List α} (hd : ∀ g, v.ownBlock = some g → u.ownBlock ≠ some g)
    (hat : ∀ g, v'.ownBlock = some g → v.ownBlock = some g ∨ N ≤ g) (hU : OwnL f sz e w base u l) (hw : w.heap.size ≤ N) : ∀ g, v'.ownBlock = some g → u.ownBlock ≠ some g := fun g hg hu => by
  rcases hat g hg with h | h
  · exact hd g h hu
  · have := (hU.blk hu).2.1; omega
theorem bi_one (l : List Int) : ∀ x ∈ l, ∀ u ∈ bi x, u.oneCell' = true := by intro y hy u hu; simp [bi] at hu; subst hu; rfl

set_option maxHeartbeats 2000000 in
theorem place_any (A : Option Addr) (c : Nat) (l : List Int) (n : Int) (w : World) (hS : Sl bi 1 w A c l) (hl : l.length ≤ 100000) :
    Calls Try.prog 76 #[.slice A l.length c, .int .i64 n] w fun e w' => ∃ A2 c2, e = .returned (.slice A2 (placeL l n).length c2) ∧ Sl bi 1 w' A2 c2 (placeL l n) ∧ Below w.heap.size w w' := by
  have hlc := hS.le
  have hc := hS.max
  obtain ⟨i0, hi, hz0, hz1, hz2⟩ := info_parts Try_info3
  have HI := hide hi
  clear hi
  go_enter Try.func76, Try.ntmps76
  go_wp2
  go_loopw [5, 6, 7] (fun v u i wr => ∃ k : Nat, k ≤ l.length ∧ i = .int .i64 k ∧ n ∉ l.take k ∧ Below w.heap.size w wr ∧ OwnL bi 1 3 wr w.heap.size v ((l.take k).filter (fun x => decide (x < n))) ∧ OwnL bi 1 3 wr w.heap.size u ((l.take k).filter (fun x => !decide (x < n))) ∧ (∀ g, v.ownBlock = some g → u.ownBlock ≠ some g)) (fun _ _ i _ => l.length - (intOf i).toNat)
  case atStart => exact ⟨0, by omega, rfl, by simp, kalloc (kalloc (Below.refl _ _) _) _, (OwnL.fresh w (Nat.le_refl _)).alloc _, OwnL.fresh' (by simp) (by omega), by simp [Value.ownBlock]⟩
  case round =>
    obtain ⟨k, hk, rfl, hn, hb, hO, hU, hd⟩ := hrel
    have hN := hb.size
    have l1 := flt_len (fun x => decide (x < n)) l k
    have l2 := flt_len (fun x => !decide (x < n)) l k
    by_cases hlt : k < l.length
    · have hne : l ≠ [] := by rintro rfl; simp at hlt
      have hx : l[k]? = some l[k] := List.getElem?_eq_getElem hlt
      generalize l[k] = x at hx
      obtain ⟨bb, off, rfl, hbw, hget⟩ := Sl.addr (hS.bel hb) hne
      have f1 := hget k x hx 0 (.int .i64 x) rfl
      simp only [Nat.mul_one, Nat.add_zero] at f1
      clear hget hne
      by_cases hxn : x = n
      · have E := hide (show placeL l n = l by unfold placeL; rw [if_pos (hxn ▸ List.mem_of_getElem? hx)])
        have S := hide (hS.bel hb)
        clear hO hU hd hn hx l1 l2 hS
        go_wp2
        go_ret
        exact ⟨some ⟨bb, off, none⟩, c, by rw [E.out]; rfl, by rw [E.out]; exact S.out, hb⟩
      · have hn2 := hide (not_in_next hx hn hxn)
        have HO := hide hO
        have HU := hide hU
        have HD := hide hd
        have gx : (x == n) = false := by simp [hxn]
        clear hO hU hd hn
        by_cases hlt2 : x < n
        · have e1 := hide (flt_yes (fun x => decide (x < n)) hx (by simp [hlt2]))
          have e2 := hide (flt_no (fun x => !decide (x < n)) hx (by simp [hlt2]))
          generalize (l.take k).filter (fun x => decide (x < n)) = la at *
          generalize (l.take k).filter (fun x => !decide (x < n)) = lb at *
          clear hx hS
          go_wp2_with (at_builtin; refine wpList_push (f := bi) (y := x) (l := la) rfl (.tmp 29) (.tmp 34) 42 rfl Try.underlying42 HI.out hz0 hz1 hz2 rfl (by decide) rfl (HO.out.alloc _) rfl (heap_new _ _) rfl rfl ?_ ?_ ?_ ?_ ?_)
          · simp [Value.oneCell', bi]
          · simp only [maxLen]; omega
          · omega
          · first | omega | (simp; omega)
          · intro v' w3 hO3 hgr hat
            have H3 := hide hO3
            have hU3 := hide ((HU.out.alloc (Obj.cells #[.int .i64 x] 3)).grown hgr (fun g hg e => HD.out g e.symm hg))
            have hd3 := hide (own_apart HD.out hat HU.out (by first | omega | (simp; omega)))
            have hb3 := Below.grown (hb.alloc hN (Obj.cells #[.int .i64 x] 3)) hgr (by simp; omega) (fun g hg => (HO.out.blk hg).1)
            clear hO3 hgr hat
            go_wp2
            go_roundw
            case rel => exact ⟨k + 1, by omega, by go_num, hn2.out, hb3, by rw [e1.out]; exact H3.out, by rw [e2.out]; exact hU3.out, hd3.out⟩
            case measure => simp [intOf]; omega
        · have e1 := hide (flt_no (fun x => decide (x < n)) hx (by simp [hlt2]))
          have e2 := hide (flt_yes (fun x => !decide (x < n)) hx (by simp [hlt2]))
          generalize (l.take k).filter (fun x => decide (x < n)) = la at *
          generalize (l.take k).filter (fun x => !decide (x < n)) = lb at *
          clear hx hS
          go_wp2_with (at_builtin; refine wpList_push (f := bi) (y := x) (l := lb) rfl (.tmp 36) (.tmp 41) 42 rfl Try.underlying42 HI.out hz0 hz1 hz2 rfl (by decide) rfl (HU.out.alloc _) rfl (heap_new _ _) rfl rfl ?_ ?_ ?_ ?_ ?_)
          · simp [Value.oneCell', bi]
          · simp only [maxLen]; omega
          · omega
          · first | omega | (simp; omega)
          · intro v' w3 hU3 hgr hat
            have H3 := hide hU3
            have hO3 := hide ((HO.out.alloc (Obj.cells #[.int .i64 x] 3)).grown hgr (fun g hg e => HD.out g hg e.symm))
            have hd3 := hide (own_apart (fun g hg hu => HD.out g hu hg) hat HO.out (by first | omega | (simp; omega)))
            have hb3 := Below.grown (hb.alloc hN (Obj.cells #[.int .i64 x] 3)) hgr (by simp; omega) (fun g hg => (HU.out.blk hg).1)
            clear hU3 hgr hat
            go_wp2
            go_roundw
            case rel => exact ⟨k + 1, by omega, by go_num, hn2.out, hb3, by rw [e1.out]; exact hO3.out, by rw [e2.out]; exact H3.out, fun g hg hu => hd3.out g hu hg⟩
            case measure => simp [intOf]; omega
    · obtain rfl : k = l.length := by omega
      rw [List.take_length] at hn hO hU l1 l2
      have E := hide (show placeL l n = l.filter (fun x => decide (x < n)) ++ n :: l.filter (fun x => !decide (x < n)) by unfold placeL; rw [if_neg hn])
      have HO := hide hO
      have HU := hide hU
      have HD := hide hd
      generalize l.filter (fun x => decide (x < n)) = la at *
      generalize l.filter (fun x => !decide (x < n)) = lb at *
      clear hO hU hd hn hS
      go_wp2_with (at_builtin; refine wpList_push (f := bi) (y := n) (l := la) rfl (.tmp 43) (.tmp 45) 42 rfl Try.underlying42 HI.out hz0 hz1 hz2 rfl (by decide) rfl (HO.out.alloc _) rfl (heap_new _ _) rfl rfl ?_ ?_ ?_ ?_ ?_)
      · simp [Value.oneCell', bi]
      · simp only [maxLen]; omega
      · omega
      · first | omega | (simp; omega)
      · intro v' w3 hO3 hgr hat
        have hU3 := (HU.out.alloc (Obj.cells #[.int .i64 n] 3)).grown hgr (fun g hg e => HD.out g e.symm hg)
        have hb3 := Below.grown (hb.alloc hN (Obj.cells #[.int .i64 n] 3)) hgr (by simp; omega) (fun g hg => (HO.out.blk hg).1)
        obtain ⟨A5, c5, rfl, hSU⟩ := hU3.sl
        have H3 := hide hO3
        replace hSU := hide hSU
        have hb3' := hb3.size
        replace hb3 := hide hb3
        clear hO3 hgr hat hU3 HU HD HO
        go_wp2_with (at_builtin; refine wpList_append rfl (.tmp 46) (.tmp 47) 42 rfl rfl rfl (run_extend (f := bi) (base := w.heap.size) (l1 := la ++ [n]) (l2 := lb) Try.underlying42 HI.out hz0 hz1 hz2 rfl (by decide) H3.out hSU.out (bi_one _) ?_ ?_ ?_) ?_)
        · simp [maxLen]; omega
        · simp; omega
        · exact hb3'
        · intro v4 w4 hO4 hgr _
          have hb4 := hide (Below.grown hb3.out hgr hb3' (fun g hg => (H3.out.blk hg).1))
          obtain ⟨A6, c6, rfl, hS6⟩ := hO4.sl
          replace hS6 := hide hS6
          clear hO4 hgr H3 hSU
          go_wp2
          go_ret
          rw [E.out]
          exact ⟨A6, c6, rfl, hS6.out, hb4.out⟩
end Go.Proofs.Ytbfgbkblblnbhaa

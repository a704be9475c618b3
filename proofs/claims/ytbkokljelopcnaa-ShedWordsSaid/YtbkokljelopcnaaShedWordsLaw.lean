/-
  ShedWords, walked.
-/
import Derived.Test.YtbkokljelopcnaaHM7
import Derived.Test.YtbkokljelopcnaaJLess
namespace Go.Proofs.Ytbkokljelopcnaa
open Go.RowKit Go.Mine Go.Mine.Q
attribute [local go_sem] Oper.semAt_some
theorem words_next {l : List Jb} {i : Nat} {x : Jb} (hx : l[i]? = some x) : (l.take (i + 1)).filter (fun y => !y.alt) = (l.take i).filter (fun y => !y.alt) ++ (if x.alt = true then [] else [x]) := by
  rw [take_of_get hx, List.filter_append]
  cases h : x.alt <;> simp [h]
set_option maxRecDepth 100000 in
set_option maxHeartbeats 8000000 in
theorem shedWords_law (A : Option Addr) (c : Nat) (l : List Jb) (w : World) (hS : Sl jbC 5 w A c l) :
    Calls Try.prog 13 #[.slice A l.length c] w fun e w' => e = .returned (.bool true) ∧ Below w.heap.size w w' := by
  have KS := hide (sane29 w)
  have KF := hide (fun W (h : Below w.heap.size w W) => few30 A c l W (hS.bel h))
  have K1 := hide (fun W (h : Below w.heap.size w W) => shed31 A c l W (hS.bel h))
  have K2 := hide (fun (B : Option Addr) (d : Nat) (o : List Int) W (h : Below w.heap.size w W) (hT : Sl ic 1 W B d o) (hk : o.length ≤ 100000) => fits34 A c l B d o W (hS.bel h) hT hk)
  unfold ShedE at K1
  have HZ : errH l ≠ 0 ∨ (errH l = 0 ∧ Wt l) := by
    by_cases h : errH l = 0
    · exact .inr ⟨h, Wt.of h⟩
    · exact .inl h
  have hlc := hS.le
  have hc := hS.max
  have HS := hide hS
  clear hS
  generalize hR : fewH l = r at *
  clear hR
  cases r
  · go_enter Try.func13, Try.ntmps13
    go_wp2_with fail
    refine KS.out.mono ?_
    rintro e w1 ⟨rfl, hb⟩
    have HB1 := hide hb
    clear hb KS
    go_wp2_with fail
    refine (KF.out _ HB1.out).mono ?_
    rintro e w' ⟨rfl, rfl⟩
    go_wp2
    go_ret
    exact ⟨rfl, HB1.out⟩
  rcases HZ with hz | ⟨hz, hw⟩
  · simp only [if_neg hz] at K1
    have gz : (errH l == 0) = false := by simpa using hz
    have gz2 : (errH l != 0) = true := by simpa using hz
    generalize errH l = z at *
    clear K2
    go_enter Try.func13, Try.ntmps13
    go_wp2_with fail
    refine KS.out.mono ?_
    rintro e w1 ⟨rfl, hb⟩
    have HB1 := hide hb
    clear hb KS
    go_wp2_with fail
    refine (KF.out _ HB1.out).mono ?_
    rintro e w' ⟨rfl, rfl⟩
    go_wp2_with fail
    refine (K1.out _ HB1.out).mono ?_
    rintro e w2 ⟨A2, c2, rfl, hS2, hb⟩
    have HB2 := hide (kcall HB1.out hb)
    clear hb K1 hS2
    go_wp2
    go_ret
    exact ⟨ret_bool (by simp), HB2.out⟩
  have hl10 := hw.len
  have HF : Hid (∀ x ∈ l, fitsR l [x.no] = (decide (x.need ≤ x.due), 0)) := hide (fun x hx => by unfold fitsR; rw [if_pos hz, fits_one hw hx])
  have HW := hide (shed_words hw)
  have HE := hide (hw.sub (List.filter_sublist (l := l) (p := fun x => !x.alt))).err
  rw [hz] at K1
  simp only [if_true] at K1
  generalize shedN l = n at *
  generalize shedW l = u at *
  generalize shedA l = v at *
  clear hw hz
  obtain ⟨i0, hi, hz0, hz1, hz2⟩ := info_parts Try_info39
  have HI := hide hi
  clear hi
  go_enter Try.func13, Try.ntmps13
  go_wp2_with fail
  refine KS.out.mono ?_
  rintro e w1 ⟨rfl, hb⟩
  have HB1 := hide hb
  clear hb KS
  go_wp2_with fail
  refine (KF.out _ HB1.out).mono ?_
  rintro e w' ⟨rfl, rfl⟩
  go_wp2_with fail
  refine (K1.out _ HB1.out).mono ?_
  rintro e w2 ⟨A2, c2, rfl, hS2, hb⟩
  have HB2 := hide (kcall HB1.out hb)
  have hw2 := HB2.out.size
  clear hb K1 hS2
  go_wp2
  go_loopw [7, 8] (fun v7 v8 wr => ∃ (i : Nat), i ≤ l.length ∧ v8 = .int .i64 i ∧ Hid (OwnL jbC 5 39 wr w2.heap.size v7 ((l.take i).filter fun y => !y.alt)) ∧ Hid (Below w2.heap.size w2 wr)) (fun _ i _ => l.length - (nI i).toNat)
  case atStart => exact ⟨0, Nat.zero_le _, rfl, OwnL.nil _ _ _ _ _, Below.refl _ _⟩
  case round =>
    obtain ⟨i, hi, rfl, HO, HBi⟩ := hrel
    by_cases hlt : i < l.length
    · obtain ⟨x, b, off, hx, _, rfl, hbw, d0, d1, d2, d3, d4⟩ := Sl.jb_at (HS.out.bel (kcall HB2.out HBi.out)) hlt
      have iz : (i : Int) < (l.length : Int) := by omega
      have HX := hide (words_next hx)
      have KX := hide (K2.out (some ⟨wr.heap.size, 0, none⟩) 1 [x.no] (wr.alloc (.cells #[.int .i64 x.no] 3)) (kalloc (kcall HB2.out HBi.out) _) (blit ic 1 _ 3 [x.no] 1 rfl rfl (fun _ _ => rfl) rfl (by decide)) (by simp))
      rw [HF.out x (List.mem_of_getElem? hx)] at KX
      have hml : ((l.take i).filter fun y => !y.alt).length ≤ i := Nat.le_trans (List.length_filter_le _ _) (List.length_take_le _ _)
      have HML := hide hml
      have HXi := hide hx
      clear hx hml d1 d2 d3 d4
      go_wp2_with fail
      refine KX.out.mono ?_
      rintro e w3 ⟨rfl, hb⟩
      have HB3 : Hid (Below w2.heap.size w2 w3) := hide (kcall (kalloc HBi.out _) hb)
      have HO3 := hide ((HO.out.alloc _).bel hb)
      clear hb KX d0 HO HBi hbw
      obtain ⟨x', b', off', hx', _, e', hbw, d0, d1, d2, d3, d4⟩ := Sl.jb_at (HS.out.bel (kcall HB2.out HB3.out)) hlt
      cases e'
      obtain rfl := Option.some.inj (hx'.symm.trans HXi.out)
      clear hx'
      go_wp2_with fail
      refine wp_still_all (by kernel_rfl) (by kernel_rfl) ?_
      repeat ((with_reducible refine wpStill_step (fun K hK => ?_)); go_simp; (try go_bits); (with_reducible refine hK _ ?_); clear hK K)
      (with_reducible refine wpStill_nil ?_)
      have HO4 := hide HO3.out.drew
      have HB4 := hide HB3.out.drew
      have h4z := HB3.out.size
      cases ha : x'.alt
      · have hnx := HX.out
        rw [ha, if_neg (by simp)] at hnx
        have HNX := hide hnx
        rw [ha] at d4
        clear hnx
        have HEA : Hid (x' = ⟨x'.no, x'.ready, x'.due, x'.need, false⟩) := hide (by rw [← ha])
        go_wp2_with (at_builtin; refine wpList_append rfl (.tmp 71) (.tmp 76) 22 rfl rfl rfl (run_extend (f := jbC) (base := w2.heap.size) (l1 := (l.take i).filter fun y => !y.alt) (l2 := [x']) Try.underlying22 HI.out hz0 hz1 hz2 rfl (by decide) (HO4.out.alloc _) (Sl.one (Blk.new _ _ _) (by rw [HEA.out]; rfl) rfl (by decide) (by decide)) (jb_one _) ?_ ?_ ?_) ?_)
        · have := HML.out; simp only [List.length_singleton]; unfold maxLen; omega
        · have := HML.out; simp only [List.length_singleton]; omega
        · simp; omega
        · intro v9 w9 hO9 hg9 hat9
          rw [← HNX.out] at hO9
          have HO9 := hide hO9
          have HB9 : Hid (Below w2.heap.size w2 w9) := hide (Below.grown (kalloc HB4.out _) hg9 (by simp; omega) (fun g hg => (HO4.out.blk hg).1))
          clear hO9 hg9 hat9
          go_wp2
          go_roundw
          case rel => exact ⟨i + 1, by omega, by go_num, HO9, HB9⟩
          case measure => simp [nI]; omega
      · have hnx := HX.out
        rw [ha, if_pos rfl, List.append_nil] at hnx
        have HNX := hide hnx
        rw [ha] at d4
        clear hnx
        go_wp2
        go_roundw
        case rel => exact ⟨i + 1, by omega, by go_num, by rw [HNX.out]; exact HO4.out, HB4⟩
        case measure => simp [nI]; omega
    · obtain rfl : i = l.length := by omega
      rw [List.take_length] at HO
      obtain ⟨A7, c7, rfl, hS7⟩ := HO.out.sl
      have h7c := hS7.le
      have h7m := hS7.max
      have K7 := hide (shed31 A7 c7 _ wr hS7)
      unfold ShedE at K7
      rw [HE.out, HW.out.1, HW.out.2] at K7
      simp only [if_true] at K7
      have HB3 := hide (kcall HB2.out HBi.out)
      clear HO hS7 HE HW HBi
      generalize (l.filter fun y => !y.alt) = l7 at *
      go_wp2_with fail
      refine K7.out.mono ?_
      rintro e w8 ⟨A8, c8, rfl, hS8, hb⟩
      have HB8 := hide (kcall HB3.out hb)
      clear hb K7 hS8
      go_wp2
      go_ret
      exact ⟨ret_bool (by simp), HB8.out⟩
end Go.Proofs.Ytbkokljelopcnaa

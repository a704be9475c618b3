/-
  BudgetsThen, walked.
-/
import Derived.Test.YtklndmnhhakmiaaBM6
namespace Go.Proofs.Ytklndmnhhakmiaa
open Go.RowKit Go.Mine Go.Mine.B
attribute [local go_sem] Oper.semAt_some
set_option maxRecDepth 100000 in
set_option maxHeartbeats 8000000 in
theorem then_yes (A : Option Addr) (c : Nat) (b : List Bu) (B : Option Addr) (d : Nat) (l : List Tr) (early at_ known : Int) (w : World) (hS : Sl buC 5 w A c b) (hT : Sl trC 7 w B d l) (hI : ∀ x ∈ b, BuS x) (hJ : ∀ x ∈ l, TrS x) (hr : rightL b l [early, at_, known] = true) (he : early ≤ at_) :
    Calls Try.prog 7 #[.slice A b.length c, .slice B l.length d, .int .i64 early, .int .i64 at_, .int .i64 known] w fun e w' => e = .returned (.bool true) ∧ Below w.heap.size w w' := by
  obtain ⟨ht, hl40, hz⟩ := rightL_parts hr
  have ha := argA_of (ht at_ (by simp)) (ht known (by simp))
  have ha1 := argA_of (ht early (by simp)) (ht known (by simp))
  obtain ⟨hcb, hbl, hll⟩ := chk_zero' hz
  have KS := hide (sane14 w)
  have KA := hide (fun W (h : Below w.heap.size w W) => standing20 A c b B d l at_ known W (hS.bel h) (hT.bel h) (BuS.all hI) (TrS.all hJ))
  rw [(stand_ok hz ha).1, (stand_ok hz ha).2] at KA
  have KE := hide (fun W (h : Below w.heap.size w W) => standing20 A c b B d l early known W (hS.bel h) (hT.bel h) (BuS.all hI) (TrS.all hJ))
  rw [(stand_ok hz ha1).1, (stand_ok hz ha1).2] at KE
  have K23 := hide (fun W (h : Below w.heap.size w W) => (show Calls Try.prog 23 #[.slice A b.length c, .slice B l.length d, .slice (some ⟨W.heap.size, 0, none⟩) 3 3] (W.alloc (.cells #[.int .i64 early, .int .i64 at_, .int .i64 known] 3)) _ from right23 A c b B d l (some ⟨W.heap.size, 0, none⟩) 3 [early, at_, known] (W.alloc (.cells #[.int .i64 early, .int .i64 at_, .int .i64 known] 3)) (hS.bel (kalloc h _)) (hT.bel (kalloc h _)) (blit ic 1 W 3 [early, at_, known] 3 rfl rfl (fun _ _ => rfl) rfl (by decide))))
  rw [hr] at K23
  have KSt := hide (fun C cc W (h : Below w.heap.size w W) (hm : Sl trC 7 W C cc (l.filter fun x => decide (x.at_ ≤ at_) && decide (x.known ≤ known))) => (by
    have k := standing20 A c b C cc (l.filter fun x => decide (x.at_ ≤ at_) && decide (x.known ≤ known)) at_ known W (hS.bel h) hm (BuS.all hI) (trS_sub (TrS.all hJ) List.filter_sublist)
    rw [(stand_ok (chk_sub hz List.filter_sublist) ha).1, (stand_ok (chk_sub hz List.filter_sublist) ha).2, standing_stand] at k
    exact k : Calls Try.prog 20 #[.slice A b.length c, .slice C (l.filter fun x => decide (x.at_ ≤ at_) && decide (x.known ≤ known)).length cc, .int .i64 at_, .int .i64 known] W (SlE buC 5 (standing b l at_ known) 0 W)))
  have KL := hide (fun E ce C cc W (h1 : Sl buC 5 W E ce (standing b l early known)) (hm : Sl trC 7 W C cc (l.filter fun x => decide (early < x.at_))) => (by
    have k := standing20 E ce (standing b l early known) C cc (l.filter fun x => decide (early < x.at_)) at_ known W h1 hm (stand_lang early known (BuS.all hI)) (trS_sub (TrS.all hJ) List.filter_sublist)
    rw [(stand_ok (chk_stand hz early known List.filter_sublist) ha).1, (stand_ok (chk_stand hz early known List.filter_sublist) ha).2, then_is hcb known he] at k
    exact k : Calls Try.prog 20 #[.slice E (standing b l early known).length ce, .slice C (l.filter fun x => decide (early < x.at_)).length cc, .int .i64 at_, .int .i64 known] W (SlE buC 5 (standing b l at_ known) 0 W)))
  have KQ := hide (fun E ce E' ce' W (h1 : Sl buC 5 W E ce (standing b l at_ known)) (h2 : Sl buC 5 W E' ce' (standing b l at_ known)) => (by
    have k := same22 E E' ce ce' (standing b l at_ known) (standing b l at_ known) W h1 h2
    rw [decide_eq_true rfl] at k
    exact k : Calls Try.prog 22 #[.slice E (standing b l at_ known).length ce, .slice E' (standing b l at_ known).length ce'] W fun e w' => e = .returned (.bool true) ∧ Below W.heap.size W w'))
  have HT := hide hT
  have hlb := hS.le
  have hmb := hS.max
  have hlt := hT.le
  have hmt := hT.max
  generalize standing b l at_ known = L at *
  generalize standing b l early known = L1 at *
  have gE : decide (at_ < early) = false := by simpa using he
  clear hS hT hI hJ hr ht ha ha1 hz hcb hll he
  obtain ⟨i0, hi, hi0, hi1, hi2⟩ := info_parts Try_info40
  have HI := hide hi
  clear hi
  go_enter Try.func7, Try.ntmps7
  go_wp2_with fail
  refine KS.out.mono ?_
  rintro e w1 ⟨rfl, hb⟩
  have HB1 := hide hb
  clear hb KS
  go_wp2_with fail
  refine (K23.out _ HB1.out).mono ?_
  rintro e w2 ⟨rfl, hb⟩
  have HB2 := hide (kcall (kalloc HB1.out (.cells #[.int .i64 early, .int .i64 at_, .int .i64 known] 3)) hb)
  clear hb K23 HB1
  have hw2 := HB2.out.size
  have HT2 := hide (HT.out.bel HB2.out)
  clear HT
  go_wp2
  go_loopw [11, 12, 14, 40] (fun v11 v12 _ i wr => ∃ (j : Nat) (u11 u12 : Value), j ≤ l.length ∧ i = .int .i64 j ∧ u11 = v11 ∧ u12 = v12 ∧ Hid (OwnL trC 7 40 wr w2.heap.size u11 ((l.take j).filter fun x => decide (x.at_ ≤ at_) && decide (x.known ≤ known))) ∧ Hid (OwnL trC 7 40 wr w2.heap.size u12 ((l.take j).filter fun x => decide (early < x.at_))) ∧ (∀ g, u11.ownBlock = some g → u12.ownBlock ≠ some g) ∧ Hid (Below w2.heap.size w2 wr)) (fun _ _ _ i _ => l.length - (nI i).toNat)
  case atStart => exact ⟨0, _, _, Nat.zero_le _, rfl, rfl, rfl, OwnL.nil _ _ _ _ _, OwnL.nil _ _ _ _ _, fun g hg => by simp [Value.ownBlock] at hg, Below.refl _ _⟩
  case round =>
    obtain ⟨j, v11, v12, hj, rfl, rfl, rfl, HO0, HP0, hap, HB⟩ := hrel
    by_cases hlt3 : j < l.length
    · obtain ⟨x, gx, offx, hx, _, rfl, hgx, t0, t1, t2, t3, t4, t5, t6⟩ := Sl.tr_at (HT2.out.bel HB.out) hlt3
      have jz : (j : Int) < (l.length : Int) := by omega
      have HFs := hide (show ((l.take (j + 1)).filter fun x => decide (x.at_ ≤ at_) && decide (x.known ≤ known)) = ((l.take j).filter fun x => decide (x.at_ ≤ at_) && decide (x.known ≤ known)) ++ (if (x.at_ ≤ at_ ∧ x.known ≤ known) then [x] else []) by
        rw [take_of_get hx, List.filter_append]; congr 1; by_cases h : x.at_ ≤ at_ <;> by_cases h2 : x.known ≤ known <;> simp [h, h2])
      have HFl := hide (show ((l.take (j + 1)).filter fun x => decide (early < x.at_)) = ((l.take j).filter fun x => decide (early < x.at_)) ++ (if early < x.at_ then [x] else []) by
        rw [take_of_get hx, List.filter_append]; congr 1; by_cases h : early < x.at_ <;> simp [h])
      have hvl1 : ((l.take j).filter fun x => decide (x.at_ ≤ at_) && decide (x.known ≤ known)).length ≤ j := Nat.le_trans (List.length_filter_le _ _) (by simp; omega)
      have hvl2 : ((l.take j).filter fun x => decide (early < x.at_)).length ≤ j := Nat.le_trans (List.length_filter_le _ _) (by simp; omega)
      generalize ((l.take j).filter fun x => decide (x.at_ ≤ at_) && decide (x.known ≤ known)) = vl1 at *
      generalize ((l.take j).filter fun x => decide (early < x.at_)) = vl2 at *
      have HB1 := hide (kalloc HB.out (.cells (trC x).toArray 40))
      have HO11 := hide (HO0.out.alloc (.cells (trC x).toArray 40))
      have HO12 := hide (HP0.out.alloc (.cells (trC x).toArray 40))
      have hwz := HB.out.size
      obtain ⟨x1, x2, x3, x4, x5, x6, x7⟩ := x
      simp only [trC] at *
      clear hx HB HP0
      rcases Bool.eq_false_or_eq_true (decide (x2 ≤ at_)) with g1 | g1
      · rcases Bool.eq_false_or_eq_true (decide (x3 ≤ known)) with g2 | g2
        · rw [if_pos (by simpa using And.intro (of_decide_eq_true g1) (of_decide_eq_true g2))] at HFs
          have HO3 := hide (HO11.out.alloc (.cells #[.int .i64 x1, .int .i64 x2, .int .i64 x3, .int .i64 x4, .int .i64 x5, .int .i64 x6, .int .i64 x7] 40))
          have HP3 := hide (HO12.out.alloc (.cells #[.int .i64 x1, .int .i64 x2, .int .i64 x3, .int .i64 x4, .int .i64 x5, .int .i64 x6, .int .i64 x7] 40))
          have HB3 := hide (kalloc HB1.out (.cells #[.int .i64 x1, .int .i64 x2, .int .i64 x3, .int .i64 x4, .int .i64 x5, .int .i64 x6, .int .i64 x7] 40))
          have XB := hide ((Blk.new wr #[.int .i64 x1, .int .i64 x2, .int .i64 x3, .int .i64 x4, .int .i64 x5, .int .i64 x6, .int .i64 x7] 40).alloc (.cells #[.int .i64 x1, .int .i64 x2, .int .i64 x3, .int .i64 x4, .int .i64 x5, .int .i64 x6, .int .i64 x7] 40))
          have hnb : ∀ g, v11.ownBlock = some g → g < wr.heap.size := fun g hg => (HO0.out.blk hg).2.1
          clear HO11 HO12 HB1
          go_wp2_with (at_builtin; refine wpList_push (f := trC) (y := ⟨x1, x2, x3, x4, x5, x6, x7⟩) (l := vl1) rfl (.tmp 54) (.tmp 56) 23 rfl Try.underlying23 HI.out hi0 hi1 hi2 rfl (by decide) rfl HO3.out rfl (new_row1 _ _ _) rfl rfl ?_ ?_ ?_ ?_ ?_)
          · exact tr_one _
          · simp only [maxLen]; omega
          · omega
          · first | omega | (simp; omega)
          · intro v6 w6 hO6 hgr hat
            have HB1 := hide (Below.grown HB3.out hgr HB3.out.size (fun g hg => (HO3.out.blk hg).1))
            have HO12 := hide (HP3.out.grown hgr (fun g hg e => hap g e.symm hg))
            rw [← HFs.out] at hO6
            have HO11 := hide hO6
            have hap6 : ∀ g, v6.ownBlock = some g → v12.ownBlock ≠ some g := fun g hg e => by
              rcases hat g hg with h | h
              · exact hap g h e
              · have h1 := (HP3.out.blk e).2.1; simp at h1; omega
            have hne : some wr.heap.size ≠ v11.ownBlock := fun e => by have := hnb _ e.symm; omega
            have d0 := gcell hgr XB.out.lt hne (XB.out.cell (v := .int .i64 x1) 0 rfl)
            have d1 := gcell hgr XB.out.lt hne (XB.out.cell (v := .int .i64 x2) 1 rfl)
            have d2 := gcell hgr XB.out.lt hne (XB.out.cell (v := .int .i64 x3) 2 rfl)
            have d3 := gcell hgr XB.out.lt hne (XB.out.cell (v := .int .i64 x4) 3 rfl)
            have d4 := gcell hgr XB.out.lt hne (XB.out.cell (v := .int .i64 x5) 4 rfl)
            have d5 := gcell hgr XB.out.lt hne (XB.out.cell (v := .int .i64 x6) 5 rfl)
            have d6 := gcell hgr XB.out.lt hne (XB.out.cell (v := .int .i64 x7) 6 rfl)
            have hxl : wr.heap.size < w6.heap.size := Nat.lt_of_lt_of_le XB.out.lt hgr.size
            clear hap
            have hap := hap6
            clear hO6 hgr hat HO3 HP3 HB3 XB hnb hne hap6
            clear HO0
            clear t0 t1 t2 t3 t4 t5 t6
            rcases Bool.eq_false_or_eq_true (decide (early < x2)) with g3 | g3
            · rw [if_pos (by simpa using g3)] at HFl
              have HO4 := hide (HO12.out.alloc (.cells #[.int .i64 x1, .int .i64 x2, .int .i64 x3, .int .i64 x4, .int .i64 x5, .int .i64 x6, .int .i64 x7] 40))
              have HO5 := hide (HO11.out.alloc (.cells #[.int .i64 x1, .int .i64 x2, .int .i64 x3, .int .i64 x4, .int .i64 x5, .int .i64 x6, .int .i64 x7] 40))
              have HB4 := hide (kalloc HB1.out (.cells #[.int .i64 x1, .int .i64 x2, .int .i64 x3, .int .i64 x4, .int .i64 x5, .int .i64 x6, .int .i64 x7] 40))
              go_wp2_with (at_builtin; refine wpList_push (f := trC) (y := ⟨x1, x2, x3, x4, x5, x6, x7⟩) (l := vl2) rfl (.tmp 62) (.tmp 64) 23 rfl Try.underlying23 HI.out hi0 hi1 hi2 rfl (by decide) rfl HO4.out rfl (heap_new _ _) rfl rfl ?_ ?_ ?_ ?_ ?_)
              · exact tr_one _
              · simp only [maxLen]; omega
              · omega
              · first | omega | (simp; omega)
              · intro v8 w8 hO8 hgr8 hat8
                have HB8 := hide (Below.grown HB4.out hgr8 HB4.out.size (fun g hg => (HO4.out.blk hg).1))
                have HO9 := hide (HO5.out.grown hgr8 (fun g hg e => hap g hg e.symm))
                rw [← HFl.out] at hO8
                have HO8 := hide hO8
                have hap8 : ∀ g, v6.ownBlock = some g → v8.ownBlock ≠ some g := fun g hg e => by
                  rcases hat8 g e with h | h
                  · exact hap g hg h
                  · have h1 := (HO5.out.blk hg).2.1; simp at h1; omega
                clear hO8 hgr8 hat8 HO4 HO5 HB4 HO11 HO12 HB1
                go_wp2
                go_roundw
                case rel => exact ⟨j + 1, _, _, by omega, by go_num, rfl, rfl, HO9, HO8, hap8, HB8⟩
                case measure => simp [nI]; omega
            · rw [if_neg (by simpa using g3), List.append_nil] at HFl
              rw [← HFl.out] at HO12
              go_wp2
              go_roundw
              case rel => exact ⟨j + 1, _, _, by omega, by go_num, rfl, rfl, HO11, HO12, hap, HB1⟩
              case measure => simp [nI]; omega
        · clear HO0
          rw [if_neg (by simp [of_decide_eq_false g2]), List.append_nil] at HFs
          rw [← HFs.out] at HO11
          rcases Bool.eq_false_or_eq_true (decide (early < x2)) with g3 | g3
          · rw [if_pos (by simpa using g3)] at HFl
            have HO4 := hide (HO12.out.alloc (.cells #[.int .i64 x1, .int .i64 x2, .int .i64 x3, .int .i64 x4, .int .i64 x5, .int .i64 x6, .int .i64 x7] 40))
            have HO5 := hide (HO11.out.alloc (.cells #[.int .i64 x1, .int .i64 x2, .int .i64 x3, .int .i64 x4, .int .i64 x5, .int .i64 x6, .int .i64 x7] 40))
            have HB4 := hide (kalloc HB1.out (.cells #[.int .i64 x1, .int .i64 x2, .int .i64 x3, .int .i64 x4, .int .i64 x5, .int .i64 x6, .int .i64 x7] 40))
            go_wp2_with (at_builtin; refine wpList_push (f := trC) (y := ⟨x1, x2, x3, x4, x5, x6, x7⟩) (l := vl2) rfl (.tmp 62) (.tmp 64) 23 rfl Try.underlying23 HI.out hi0 hi1 hi2 rfl (by decide) rfl HO4.out rfl (new_row1 _ _ _) rfl rfl ?_ ?_ ?_ ?_ ?_)
            · exact tr_one _
            · simp only [maxLen]; omega
            · omega
            · first | omega | (simp; omega)
            · intro v8 w8 hO8 hgr8 hat8
              have HB8 := hide (Below.grown HB4.out hgr8 HB4.out.size (fun g hg => (HO4.out.blk hg).1))
              have HO9 := hide (HO5.out.grown hgr8 (fun g hg e => hap g hg e.symm))
              rw [← HFl.out] at hO8
              have HO8 := hide hO8
              have hap8 : ∀ g, v11.ownBlock = some g → v8.ownBlock ≠ some g := fun g hg e => by
                rcases hat8 g e with h | h
                · exact hap g hg h
                · have h1 := (HO5.out.blk hg).2.1; simp at h1; omega
              clear hO8 hgr8 hat8 HO4 HO5 HB4 HO11 HO12 HB1
              go_wp2
              go_roundw
              case rel => exact ⟨j + 1, _, _, by omega, by go_num, rfl, rfl, HO9, HO8, hap8, HB8⟩
              case measure => simp [nI]; omega
          · rw [if_neg (by simpa using g3), List.append_nil] at HFl
            rw [← HFl.out] at HO12
            go_wp2
            go_roundw
            case rel => exact ⟨j + 1, _, _, by omega, by go_num, rfl, rfl, HO11, HO12, hap, HB1⟩
            case measure => simp [nI]; omega
      · clear HO0
        rw [if_neg (by simp [of_decide_eq_false g1]), List.append_nil] at HFs
        rw [← HFs.out] at HO11
        rcases Bool.eq_false_or_eq_true (decide (early < x2)) with g3 | g3
        · rw [if_pos (by simpa using g3)] at HFl
          have HO4 := hide (HO12.out.alloc (.cells #[.int .i64 x1, .int .i64 x2, .int .i64 x3, .int .i64 x4, .int .i64 x5, .int .i64 x6, .int .i64 x7] 40))
          have HO5 := hide (HO11.out.alloc (.cells #[.int .i64 x1, .int .i64 x2, .int .i64 x3, .int .i64 x4, .int .i64 x5, .int .i64 x6, .int .i64 x7] 40))
          have HB4 := hide (kalloc HB1.out (.cells #[.int .i64 x1, .int .i64 x2, .int .i64 x3, .int .i64 x4, .int .i64 x5, .int .i64 x6, .int .i64 x7] 40))
          go_wp2_with (at_builtin; refine wpList_push (f := trC) (y := ⟨x1, x2, x3, x4, x5, x6, x7⟩) (l := vl2) rfl (.tmp 62) (.tmp 64) 23 rfl Try.underlying23 HI.out hi0 hi1 hi2 rfl (by decide) rfl HO4.out rfl (new_row1 _ _ _) rfl rfl ?_ ?_ ?_ ?_ ?_)
          · exact tr_one _
          · simp only [maxLen]; omega
          · omega
          · first | omega | (simp; omega)
          · intro v8 w8 hO8 hgr8 hat8
            have HB8 := hide (Below.grown HB4.out hgr8 HB4.out.size (fun g hg => (HO4.out.blk hg).1))
            have HO9 := hide (HO5.out.grown hgr8 (fun g hg e => hap g hg e.symm))
            rw [← HFl.out] at hO8
            have HO8 := hide hO8
            have hap8 : ∀ g, v11.ownBlock = some g → v8.ownBlock ≠ some g := fun g hg e => by
              rcases hat8 g e with h | h
              · exact hap g hg h
              · have h1 := (HO5.out.blk hg).2.1; simp at h1; omega
            clear hO8 hgr8 hat8 HO4 HO5 HB4 HO11 HO12 HB1
            go_wp2
            go_roundw
            case rel => exact ⟨j + 1, _, _, by omega, by go_num, rfl, rfl, HO9, HO8, hap8, HB8⟩
            case measure => simp [nI]; omega
        · rw [if_neg (by simpa using g3), List.append_nil] at HFl
          rw [← HFl.out] at HO12
          go_wp2
          go_roundw
          case rel => exact ⟨j + 1, _, _, by omega, by go_num, rfl, rfl, HO11, HO12, hap, HB1⟩
          case measure => simp [nI]; omega
    · obtain rfl : j = l.length := by omega
      have hO := HO0.out
      have hP := HP0.out
      rw [List.take_length] at hO hP
      have hml : (l.filter fun x => decide (x.at_ ≤ at_) && decide (x.known ≤ known)).length ≤ l.length := List.length_filter_le _ _
      have hml2 : (l.filter fun x => decide (early < x.at_)).length ≤ l.length := List.length_filter_le _ _
      generalize (l.filter fun x => decide (x.at_ ≤ at_) && decide (x.known ≤ known)) = m1 at *
      generalize (l.filter fun x => decide (early < x.at_)) = m2 at *
      obtain ⟨C, cc, rfl, hSm⟩ := hO.sl
      obtain ⟨D, dd, rfl, hSn⟩ := hP.sl
      have HBw := hide (show Below w.heap.size w wr from kcall HB2.out HB.out)
      have HSm := hide hSm
      have HSn := hide hSn
      clear hO hP HO0 HP0 hSm hSn hap HB
      go_wp2_with fail
      refine (KA.out _ HBw.out).mono ?_
      rintro e w4 ⟨E1, e1, rfl, h1, hb⟩
      have HB4 := hide (kcall HBw.out hb)
      have H1 := hide h1
      have HSm4 := hide (HSm.out.bel hb)
      have HSn4 := hide (HSn.out.bel hb)
      clear h1 hb KA HSm HSn
      go_wp2_with fail
      refine (KSt.out _ _ _ HB4.out HSm4.out).mono ?_
      rintro e w5 ⟨E2, e2, rfl, h2, hb⟩
      have HB5 := hide (kcall HB4.out hb)
      have H1 := hide (H1.out.bel hb)
      have H2 := hide h2
      have HSn5 := hide (HSn4.out.bel hb)
      clear h2 hb KSt HSm4 HSn4
      go_wp2_with fail
      refine (KE.out _ HB5.out).mono ?_
      rintro e w6 ⟨E3, e3, rfl, h3, hb⟩
      have HB6 := hide (kcall HB5.out hb)
      have H1 := hide (H1.out.bel hb)
      have H2 := hide (H2.out.bel hb)
      have H3 := hide h3
      have HSn6 := hide (HSn5.out.bel hb)
      clear h3 hb KE HSn5
      go_wp2_with fail
      refine (KL.out _ _ _ _ _ H3.out HSn6.out).mono ?_
      rintro e w7 ⟨E4, e4, rfl, h4, hb⟩
      have HB7 := hide (kcall HB6.out hb)
      have H1 := hide (H1.out.bel hb)
      have H2 := hide (H2.out.bel hb)
      have H4 := hide h4
      clear h4 hb KL H3 HSn6
      go_wp2_with fail
      refine (KQ.out _ _ _ _ _ H1.out H2.out).mono ?_
      rintro e w8 ⟨rfl, hb⟩
      have HB8 := hide (kcall HB7.out hb)
      have H1 := hide (H1.out.bel hb)
      have H4 := hide (H4.out.bel hb)
      clear hb H2
      go_wp2_with fail
      refine (KQ.out _ _ _ _ _ H1.out H4.out).mono ?_
      rintro e w9 ⟨rfl, hb⟩
      have HB9 := hide (kcall HB8.out hb)
      clear hb H1 H4
      go_wp2
      go_ret
      exact ⟨rfl, HB9.out⟩
theorem then_no (A : Option Addr) (c : Nat) (b : List Bu) (B : Option Addr) (d : Nat) (l : List Tr) (early at_ known : Int) (w : World) (hS : Sl buC 5 w A c b) (hT : Sl trC 7 w B d l) (hr : (rightL b l [early, at_, known] && !decide (at_ < early)) = false) :
    Calls Try.prog 7 #[.slice A b.length c, .slice B l.length d, .int .i64 early, .int .i64 at_, .int .i64 known] w fun e w' => e = .returned (.bool true) ∧ Below w.heap.size w w' := by
  have KS := hide (sane14 w)
  have K23 := hide (fun W (h : Below w.heap.size w W) => (show Calls Try.prog 23 #[.slice A b.length c, .slice B l.length d, .slice (some ⟨W.heap.size, 0, none⟩) 3 3] (W.alloc (.cells #[.int .i64 early, .int .i64 at_, .int .i64 known] 3)) _ from right23 A c b B d l (some ⟨W.heap.size, 0, none⟩) 3 [early, at_, known] (W.alloc (.cells #[.int .i64 early, .int .i64 at_, .int .i64 known] 3)) (hS.bel (kalloc h _)) (hT.bel (kalloc h _)) (blit ic 1 W 3 [early, at_, known] 3 rfl rfl (fun _ _ => rfl) rfl (by decide))))
  generalize rightL b l [early, at_, known] = r at *
  clear hS hT
  have hc : r = false ∨ (r = true ∧ decide (at_ < early) = true) := by cases r <;> simp_all
  clear hr
  rcases hc with rfl | ⟨rfl, g1⟩
  all_goals
    go_enter Try.func7, Try.ntmps7
    go_wp2_with fail
    refine KS.out.mono ?_
    rintro e w1 ⟨rfl, hb⟩
    have HB1 := hide hb
    clear hb KS
    go_wp2_with fail
    refine (K23.out _ HB1.out).mono ?_
    rintro e w2 ⟨rfl, hb⟩
    have HB2 := hide (kcall (kalloc HB1.out (.cells #[.int .i64 early, .int .i64 at_, .int .i64 known] 3)) hb)
    clear hb K23 HB1
    go_wp2
    go_ret
    exact ⟨rfl, HB2.out⟩
theorem budgetsThen_law (A : Option Addr) (c : Nat) (b : List Bu) (B : Option Addr) (d : Nat) (l : List Tr) (early at_ known : Int) (w : World) (hS : Sl buC 5 w A c b) (hT : Sl trC 7 w B d l) (hI : ∀ x ∈ b, BuS x) (hJ : ∀ x ∈ l, TrS x) :
    Calls Try.prog 7 #[.slice A b.length c, .slice B l.length d, .int .i64 early, .int .i64 at_, .int .i64 known] w fun e w' => e = .returned (.bool true) ∧ Below w.heap.size w w' := by
  rcases Bool.eq_false_or_eq_true (rightL b l [early, at_, known] && !decide (at_ < early)) with hr | hr
  · rw [Bool.and_eq_true] at hr
    exact then_yes A c b B d l early at_ known w hS hT hI hJ hr.1 (by have := hr.2; simpa using this)
  · exact then_no A c b B d l early at_ known w hS hT hr
end Go.Proofs.Ytklndmnhhakmiaa

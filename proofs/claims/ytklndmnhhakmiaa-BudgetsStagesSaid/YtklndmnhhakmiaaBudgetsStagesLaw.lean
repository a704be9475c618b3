/-
  BudgetsStages, walked.
-/
import Derived.Test.YtklndmnhhakmiaaBM6
namespace Go.Proofs.Ytklndmnhhakmiaa
open Go.RowKit Go.Mine Go.Mine.B
attribute [local go_sem] Oper.semAt_some
set_option maxRecDepth 100000 in
set_option maxHeartbeats 8000000 in
theorem stages_yes (A : Option Addr) (c : Nat) (b : List Bu) (B : Option Addr) (d : Nat) (l : List Tr) (at_ known : Int) (w : World) (hS : Sl buC 5 w A c b) (hT : Sl trC 7 w B d l) (hI : ∀ x ∈ b, BuS x) (hJ : ∀ x ∈ l, TrS x) (hr : rightL b l [at_, known] = true) :
    Calls Try.prog 6 #[.slice A b.length c, .slice B l.length d, .int .i64 at_, .int .i64 known] w fun e w' => e = .returned (.bool true) ∧ Below w.heap.size w w' := by
  obtain ⟨ht, hl40, hz⟩ := rightL_parts hr
  have ha := argA_of (ht at_ (by simp)) (ht known (by simp))
  obtain ⟨hcb, hbl, hll⟩ := chk_zero' hz
  have KS := hide (sane14 w)
  have K3 := hide (fun W (h : Below w.heap.size w W) => standing20 A c b B d l at_ known W (hS.bel h) (hT.bel h) (BuS.all hI) (TrS.all hJ))
  rw [(stand_ok hz ha).1, (stand_ok hz ha).2] at K3
  have K23 := hide (fun W (h : Below w.heap.size w W) => (show Calls Try.prog 23 #[.slice A b.length c, .slice B l.length d, .slice (some ⟨W.heap.size, 0, none⟩) 2 2] (W.alloc (.cells #[.int .i64 at_, .int .i64 known] 3)) _ from right23 A c b B d l (some ⟨W.heap.size, 0, none⟩) 2 [at_, known] (W.alloc (.cells #[.int .i64 at_, .int .i64 known] 3)) (hS.bel (kalloc h _)) (hT.bel (kalloc h _)) (blit ic 1 W 3 [at_, known] 2 rfl rfl (fun _ _ => rfl) rfl (by decide))))
  rw [hr] at K23
  have KM := hide (fun (s : Nat) C cc W (h : Below w.heap.size w W) (hm : Sl trC 7 W C cc (l.filter fun x => decide (x.stg = (s : Int)))) => (by
    have k := standing20 A c b C cc (l.filter fun x => decide (x.stg = (s : Int))) at_ known W (hS.bel h) hm (BuS.all hI) (trS_sub (TrS.all hJ) List.filter_sublist)
    rw [(stand_ok (chk_sub hz List.filter_sublist) ha).1, (stand_ok (chk_sub hz List.filter_sublist) ha).2] at k
    exact k : Calls Try.prog 20 #[.slice A b.length c, .slice C (l.filter fun x => decide (x.stg = (s : Int))).length cc, .int .i64 at_, .int .i64 known] W (SlE buC 5 (standing b (l.filter fun x => decide (x.stg = (s : Int))) at_ known) 0 W)))
  have HLl := hide (standing_len b l at_ known)
  have HLm := hide (fun s : Nat => standing_len b (l.filter fun x => decide (x.stg = (s : Int))) at_ known)
  have HST := hide (fun (s : Nat) (hs : s < 4) (k : Nat) (y z : Bu) => stage_at hcb at_ known hs (k := k) (y := y) (z := z))
  have HT := hide hT
  have hlb := hS.le
  have hmb := hS.max
  have hlt := hT.le
  have hmt := hT.max
  generalize standing b l at_ known = L at *
  have gl : ((L.length : Int) != (b.length : Int)) = false := by simp [HLl.out]
  clear hS hT hI hJ hr ht ha hz hcb hll
  obtain ⟨i0, hi, hi0, hi1, hi2⟩ := info_parts Try_info40
  have HI := hide hi
  clear hi
  go_enter Try.func6, Try.ntmps6
  go_wp2_with fail
  refine KS.out.mono ?_
  rintro e w1 ⟨rfl, hb⟩
  have HB1 := hide hb
  clear hb KS
  go_wp2_with fail
  refine (K23.out _ HB1.out).mono ?_
  rintro e w2 ⟨rfl, hb⟩
  have HB2 := hide (kcall (kalloc HB1.out (.cells #[.int .i64 at_, .int .i64 known] 3)) hb)
  clear hb K23 HB1
  go_wp2_with fail
  refine (K3.out _ HB2.out).mono ?_
  rintro e w4 ⟨A9, c9, rfl, h9, hb⟩
  have HB4 := hide (kcall HB2.out hb)
  have H9 := hide h9
  have h9l := h9.le
  have h9m := h9.max
  clear h9 hb K3 HB2
  have hw4 := HB4.out.size
  have HT4 := hide (HT.out.bel HB4.out)
  clear HT
  go_wp2
  go_loopw [11, 12, 14, 15, 16, 17, 44, 47, 48, 49, 79, 80, 81] (fun _ _ _ _ _ _ i _ _ _ _ _ _ wr => ∃ s : Nat, s ≤ 4 ∧ i = .int .i64 s ∧ Hid (Below w4.heap.size w4 wr)) (fun _ _ _ _ _ _ i _ _ _ _ _ _ _ => 4 - (nI i).toNat)
  case atStart => exact ⟨0, Nat.zero_le _, rfl, Below.refl _ _⟩
  case round =>
    obtain ⟨s, hs, rfl, HB⟩ := hrel
    by_cases hs4 : s < 4
    · have hs4z : (s : Int) < 4 := by omega
      have KM2 := hide (KM.out s)
      have HLm2 := hide (HLm.out s)
      have HST2 := hide (HST.out s hs4)
      have HP := hide (show (l.filter fun x => decide (x.stg = (s : Int))) = l.filter fun x => decide (x.stg = (s : Int)) from rfl)
      go_wp2
      go_loopw [12, 14, 49] (fun v _ i w2 => ∃ j : Nat, j ≤ l.length ∧ i = .int .i64 j ∧ Hid (OwnL trC 7 40 w2 w4.heap.size v ((l.take j).filter fun x => decide (x.stg = (s : Int)))) ∧ Hid (Below w4.heap.size w4 w2)) (fun _ _ i _ => l.length - (nI i).toNat)
      case atStart => exact ⟨0, Nat.zero_le _, rfl, OwnL.nil _ _ _ _ _, HB⟩
      case round =>
        clear HB
        obtain ⟨j, hj, rfl, HO, HB⟩ := hrel
        by_cases hlt3 : j < l.length
        · obtain ⟨x, gx, offx, hx, _, rfl, hgx, t0, t1, t2, t3, t4, t5, t6⟩ := Sl.tr_at (HT4.out.bel HB.out) hlt3
          have jz : (j : Int) < (l.length : Int) := by omega
          have HF := hide (show ((l.take (j + 1)).filter fun x => decide (x.stg = (s : Int))) = ((l.take j).filter fun x => decide (x.stg = (s : Int))) ++ (if x.stg = (s : Int) then [x] else []) by
            rw [take_of_get hx, List.filter_append]; congr 1; by_cases h : x.stg = (s : Int) <;> simp [h])
          have hvl : ((l.take j).filter fun x => decide (x.stg = (s : Int))).length ≤ j := Nat.le_trans (List.length_filter_le _ _) (by simp; omega)
          generalize ((l.take j).filter fun x => decide (x.stg = (s : Int))) = vl at *
          have HB2 := hide (kalloc HB.out (.cells (trC x).toArray 40))
          have HO2 := hide (HO.out.alloc (.cells (trC x).toArray 40))
          have HB3 := hide (kalloc HB2.out (.cells (trC x).toArray 40))
          have HO3 := hide (HO2.out.alloc (.cells (trC x).toArray 40))
          have hwz := HB.out.size
          obtain ⟨x1, x2, x3, x4, x5, x6, x7⟩ := x
          simp only [trC] at *
          clear hx HB HO
          rcases Bool.eq_false_or_eq_true (x4 == (s : Int)) with g1 | g1
          · rw [if_pos (by simpa using g1)] at HF
            go_wp2_with (at_builtin; refine wpList_push (f := trC) (y := ⟨x1, x2, x3, x4, x5, x6, x7⟩) (l := vl) rfl (.tmp 57) (.tmp 59) 23 rfl Try.underlying23 HI.out hi0 hi1 hi2 rfl (by decide) rfl HO3.out rfl (new_row1 _ _ _) rfl rfl ?_ ?_ ?_ ?_ ?_)
            · exact tr_one _
            · simp only [maxLen]; omega
            · omega
            · first | omega | (simp; omega)
            · intro v6 w6 hO6 hgr hat
              have HB6 := hide (Below.grown HB3.out hgr HB3.out.size (fun g hg => (HO3.out.blk hg).1))
              rw [← HF.out] at hO6
              have HO6 := hide hO6
              clear hO6 hgr hat HO2 HB2 HO3 HB3
              go_wp2
              go_roundw
              case rel => exact ⟨j + 1, by omega, by go_num, HO6, HB6⟩
              case measure => simp [nI]; omega
          · rw [if_neg (by simpa using g1), List.append_nil] at HF
            rw [← HF.out] at HO2
            go_wp2
            go_roundw
            case rel => exact ⟨j + 1, by omega, by go_num, HO2, HB2⟩
            case measure => simp [nI]; omega
        · obtain rfl : j = l.length := by omega
          have hO := HO.out
          rw [List.take_length] at hO
          have hml : (l.filter fun x => decide (x.stg = (s : Int))).length ≤ l.length := List.length_filter_le _ _
          generalize (l.filter fun x => decide (x.stg = (s : Int))) = m at *
          obtain ⟨C, cc, rfl, hSm⟩ := hO.sl
          have HSm := hide hSm
          have HBw := hide (show Below w.heap.size w wr from kcall HB4.out HB.out)
          clear hO HO hSm
          go_wp2_with fail
          refine (KM2.out _ _ _ HBw.out HSm.out).mono ?_
          rintro e w6 ⟨A7, c7, rfl, h7, hb⟩
          have HB6 := hide (kcall HB.out hb)
          have H7 := hide h7
          have h7l := h7.le
          have h7m := h7.max
          clear h7 hb KM2 HSm HBw HB
          generalize standing b m at_ known = M at *
          have gl2 : ((M.length : Int) != (b.length : Int)) = false := by simp [HLm2.out]
          go_wp2
          go_loopw [17, 81] (fun _ i w7 => ∃ k : Nat, k ≤ L.length ∧ i = .int .i64 k ∧ Hid (Below w6.heap.size w6 w7)) (fun _ i _ => L.length - (nI i).toNat)
          case atStart => exact ⟨0, Nat.zero_le _, rfl, Below.refl _ _⟩
          case round =>
            obtain ⟨k, hk, rfl, HB⟩ := hrel
            by_cases hlt4 : k < L.length
            · obtain ⟨y, g, off, hy, _, rfl, hgw, _⟩ := Sl.bu_at (H9.out.bel (kcall HB6.out HB.out)) hlt4
              obtain ⟨z, g7, off7, hz, _, rfl, hgw7, _⟩ := Sl.bu_at (H7.out.bel HB.out) (show k < M.length by have := HLm2.out; have := HLl.out; omega)
              have c1 := bu_q (H9.out.bel (kcall HB6.out HB.out)) hy hs4
              have c2 := bu_q (H7.out.bel HB.out) hz hs4
              rw [← HST2.out k y z hy hz] at c2
              have kz : (k : Int) < (L.length : Int) := by omega
              have kz2 : (k : Int) < (M.length : Int) := by have := HLm2.out; have := HLl.out; omega
              generalize qg y.q (s : Int) = u at *
              have HBd := hide HB.out.drew
              clear hy hz HB
              go_wp2_with fail
              refine wp_still_all (by kernel_rfl) (by kernel_rfl) ?_
              repeat ((with_reducible refine wpStill_step (fun K hK => ?_)); go_simp; (try go_bits); (with_reducible refine hK _ ?_); clear hK K)
              (with_reducible refine wpStill_nil ?_)
              go_wp2
              go_roundw
              case rel => exact ⟨k + 1, by omega, by go_num, HBd⟩
              case measure => simp [nI]; omega
            · obtain rfl : k = L.length := by omega
              have HBd := hide (kcall HB6.out HB.out)
              go_wp2
              go_roundw
              case rel => exact ⟨s + 1, by omega, by go_num, HBd⟩
              case measure => simp [nI]; omega
    · obtain rfl : s = 4 := by omega
      go_wp2
      go_ret
      exact ⟨rfl, kcall HB4.out HB.out⟩
theorem stages_no (A : Option Addr) (c : Nat) (b : List Bu) (B : Option Addr) (d : Nat) (l : List Tr) (at_ known : Int) (w : World) (hS : Sl buC 5 w A c b) (hT : Sl trC 7 w B d l) (hr : rightL b l [at_, known] = false) :
    Calls Try.prog 6 #[.slice A b.length c, .slice B l.length d, .int .i64 at_, .int .i64 known] w fun e w' => e = .returned (.bool true) ∧ Below w.heap.size w w' := by
  have KS := hide (sane14 w)
  have K23 := hide (fun W (h : Below w.heap.size w W) => (show Calls Try.prog 23 #[.slice A b.length c, .slice B l.length d, .slice (some ⟨W.heap.size, 0, none⟩) 2 2] (W.alloc (.cells #[.int .i64 at_, .int .i64 known] 3)) _ from right23 A c b B d l (some ⟨W.heap.size, 0, none⟩) 2 [at_, known] (W.alloc (.cells #[.int .i64 at_, .int .i64 known] 3)) (hS.bel (kalloc h _)) (hT.bel (kalloc h _)) (blit ic 1 W 3 [at_, known] 2 rfl rfl (fun _ _ => rfl) rfl (by decide))))
  rw [hr] at K23
  clear hS hT hr
  go_enter Try.func6, Try.ntmps6
  go_wp2_with fail
  refine KS.out.mono ?_
  rintro e w1 ⟨rfl, hb⟩
  have HB1 := hide hb
  clear hb KS
  go_wp2_with fail
  refine (K23.out _ HB1.out).mono ?_
  rintro e w2 ⟨rfl, hb⟩
  have HB2 := hide (kcall (kalloc HB1.out (.cells #[.int .i64 at_, .int .i64 known] 3)) hb)
  clear hb K23 HB1
  go_wp2
  go_ret
  exact ⟨rfl, HB2.out⟩
theorem budgetsStages_law (A : Option Addr) (c : Nat) (b : List Bu) (B : Option Addr) (d : Nat) (l : List Tr) (at_ known : Int) (w : World) (hS : Sl buC 5 w A c b) (hT : Sl trC 7 w B d l) (hI : ∀ x ∈ b, BuS x) (hJ : ∀ x ∈ l, TrS x) :
    Calls Try.prog 6 #[.slice A b.length c, .slice B l.length d, .int .i64 at_, .int .i64 known] w fun e w' => e = .returned (.bool true) ∧ Below w.heap.size w w' := by
  rcases Bool.eq_false_or_eq_true (rightL b l [at_, known]) with hr | hr
  · exact stages_yes A c b B d l at_ known w hS hT hI hJ hr
  · exact stages_no A c b B d l at_ known w hS hT hr
end Go.Proofs.Ytklndmnhhakmiaa

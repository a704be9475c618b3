/-
  DeadlinesLater, walked.
-/
import Derived.Test.YtklndmnhhakmiaaDLaw
namespace Go.Proofs.Ytklndmnhhakmiaa
open Go.RowKit Go.Mine Go.Mine.B
attribute [local go_sem] Oper.semAt_some
set_option maxRecDepth 100000 in
set_option maxHeartbeats 8000000 in
theorem dlater_yes (A : Option Addr) (c : Nat) (b : List Bu) (B : Option Addr) (d : Nat) (l : List Tr) (n u k : Int) (w : World) (hS : Sl buC 5 w A c b) (hT : Sl trC 7 w B d l) (hI : ∀ x ∈ b, BuS x) (hJ : ∀ x ∈ l, TrS x) (hr : fewD b l = true) :
    Calls Try.prog 10 #[.slice A b.length c, .slice B l.length d, .int .i64 n, .int .i64 u, .int .i64 k] w fun e w' => e = .returned (.bool true) ∧ Below w.heap.size w w' := by
  obtain ⟨hbl, hl40, hz, hcb⟩ := fewD_parts hr
  have KS := hide (sane25 w)
  have KF := hide (fun W (h : Below w.heap.size w W) => few30 A B c d b l W (hS.bel h) (hT.bel h))
  rw [hr] at KF
  have K1 := hide (fun W (h : Below w.heap.size w W) => due26 A c b B d l n u k W (hS.bel h) (hT.bel h) (BuS.all hI) (TrS.all hJ))
  have K2 := hide (fun C cc W (h : Below w.heap.size w W) (hm : Sl trC 7 W C cc (l.filter fun x => decide (x.at_ ≤ u) && decide (x.known ≤ k))) => (by
    have k2 := due26 A c b C cc (l.filter fun x => decide (x.at_ ≤ u) && decide (x.known ≤ k)) n u k W (hS.bel h) hm (BuS.all hI) (trS_sub (TrS.all hJ) List.filter_sublist)
    rw [due_later hcb hbl hl40] at k2
    exact k2 : Calls Try.prog 26 #[.slice A b.length c, .slice C (l.filter fun x => decide (x.at_ ≤ u) && decide (x.known ≤ k)).length cc, .int .i64 n, .int .i64 u, .int .i64 k] W (DueE (dueV 400 1 b l n u k) W)))
  have HT := hide hT
  have hlb := hS.le
  have hmb := hS.max
  have hlt := hT.le
  have hmt := hT.max
  generalize dueV 400 1 b l n u k = D at *
  obtain ⟨⟨q1, q2, q3, q4⟩, z⟩ := D
  have e24 := fun d W => arr24 W q1 q2 q3 q4 q1 q2 q3 q4 (by simp) d
  clear hS hT hI hJ hr hz hcb
  obtain ⟨i0, hi, hi0, hi1, hi2⟩ := info_parts Try_info40
  have HI := hide hi
  clear hi
  go_enter Try.func10, Try.ntmps10
  go_wp2_with fail
  refine KS.out.mono ?_
  rintro e w1 ⟨rfl, hb⟩
  have HB1 := hide hb
  clear hb KS
  go_wp2_with fail
  refine (KF.out _ HB1.out).mono ?_
  rintro e w2 ⟨rfl, hb⟩
  have HB2 := hide (kcall HB1.out hb)
  clear hb KF HB1
  go_wp2_with fail
  refine (K1.out _ HB2.out).mono ?_
  rintro e w3 ⟨rfl, hb⟩
  have HB3 := hide (kcall HB2.out hb)
  clear hb K1 HB2
  simp only [qV, qC]
  have hw3 := HB3.out.size
  have HT3 := hide (HT.out.bel HB3.out)
  have X0 := hide (Blk.new w3 #[.int .i64 q1, .int .i64 q2, .int .i64 q3, .int .i64 q4] 24)
  have HB0 := hide (kalloc (Below.refl w3.heap.size w3) (.cells #[.int .i64 q1, .int .i64 q2, .int .i64 q3, .int .i64 q4] 24))
  clear HT
  go_wp2
  go_loopw [13, 15, 35] (fun v13 _ i wr => ∃ (j : Nat) (u13 : Value), j ≤ l.length ∧ i = .int .i64 j ∧ u13 = v13 ∧ Hid (OwnL trC 7 40 wr (w3.heap.size + 1) u13 ((l.take j).filter fun x => decide (x.at_ ≤ u) && decide (x.known ≤ k))) ∧ Hid (Below w3.heap.size w3 wr) ∧ Hid (Blk wr w3.heap.size 24 #[.int .i64 q1, .int .i64 q2, .int .i64 q3, .int .i64 q4])) (fun _ _ i _ => l.length - (nI i).toNat)
  case atStart => exact ⟨0, _, Nat.zero_le _, rfl, rfl, OwnL.nil _ _ _ _ _, HB0, X0⟩
  case round =>
    clear HB0 X0
    obtain ⟨j, v13, hj, rfl, rfl, HO0, HB, X⟩ := hrel
    by_cases hlt3 : j < l.length
    · obtain ⟨x, gx, offx, hx, _, rfl, hgx, t0, t1, t2, t3, t4, t5, t6⟩ := Sl.tr_at (HT3.out.bel HB.out) hlt3
      have jz : (j : Int) < (l.length : Int) := by omega
      have HFs := hide (show ((l.take (j + 1)).filter fun x => decide (x.at_ ≤ u) && decide (x.known ≤ k)) = ((l.take j).filter fun x => decide (x.at_ ≤ u) && decide (x.known ≤ k)) ++ (if (x.at_ ≤ u ∧ x.known ≤ k) then [x] else []) by
        rw [take_of_get hx, List.filter_append]; congr 1; by_cases h : x.at_ ≤ u <;> by_cases h2 : x.known ≤ k <;> simp [h, h2])
      have hvl1 : ((l.take j).filter fun x => decide (x.at_ ≤ u) && decide (x.known ≤ k)).length ≤ j := Nat.le_trans (List.length_filter_le _ _) (by simp; omega)
      generalize ((l.take j).filter fun x => decide (x.at_ ≤ u) && decide (x.known ≤ k)) = vl1 at *
      have HB1 := hide (kalloc HB.out (.cells (trC x).toArray 40))
      have X1 := hide (X.out.alloc (.cells (trC x).toArray 40))
      have HO11 := hide (HO0.out.alloc (.cells (trC x).toArray 40))
      have hwz := HB.out.size
      have hxz := X.out.lt
      obtain ⟨x1, x2, x3, x4, x5, x6, x7⟩ := x
      simp only [trC] at *
      clear hx HB X
      rcases Bool.eq_false_or_eq_true (decide (x2 ≤ u)) with g1 | g1
      · rcases Bool.eq_false_or_eq_true (decide (x3 ≤ k)) with g2 | g2
        · rw [if_pos (by simpa using And.intro (of_decide_eq_true g1) (of_decide_eq_true g2))] at HFs
          have HO3 := hide (HO11.out.alloc (.cells #[.int .i64 x1, .int .i64 x2, .int .i64 x3, .int .i64 x4, .int .i64 x5, .int .i64 x6, .int .i64 x7] 40))
          have HB3 := hide (kalloc HB1.out (.cells #[.int .i64 x1, .int .i64 x2, .int .i64 x3, .int .i64 x4, .int .i64 x5, .int .i64 x6, .int .i64 x7] 40))
          have X3 := hide (X1.out.alloc (.cells #[.int .i64 x1, .int .i64 x2, .int .i64 x3, .int .i64 x4, .int .i64 x5, .int .i64 x6, .int .i64 x7] 40))
          have hnb : ∀ g, v13.ownBlock = some g → w3.heap.size < g := fun g hg => (HO0.out.blk hg).1
          clear HO11 HO0 HB1 X1
          go_wp2_with (at_builtin; refine wpList_push (f := trC) (y := ⟨x1, x2, x3, x4, x5, x6, x7⟩) (l := vl1) rfl (.tmp 49) (.tmp 51) 23 rfl Try.underlying23 HI.out hi0 hi1 hi2 rfl (by decide) rfl HO3.out rfl (new_row1 _ _ _) rfl rfl ?_ ?_ ?_ ?_ ?_)
          · exact tr_one _
          · simp only [maxLen]; omega
          · omega
          · first | omega | (simp; omega)
          · intro v6 w6 hO6 hgr hat
            have HB6 := hide (Below.grown HB3.out hgr HB3.out.size (fun g hg => Nat.le_of_succ_le (HO3.out.blk hg).1))
            rw [← HFs.out] at hO6
            have HO6 := hide hO6
            have X6 := hide (X3.out.grown hgr (fun e => by have := hnb _ e.symm; omega))
            clear hO6 hgr hat HO3 HB3 hnb X3
            go_wp2
            go_roundw
            case rel => exact ⟨j + 1, _, by omega, by go_num, rfl, HO6, HB6, X6⟩
            case measure => simp [nI]; omega
        · rw [if_neg (by simp [of_decide_eq_false g2]), List.append_nil] at HFs
          rw [← HFs.out] at HO11
          go_wp2
          go_roundw
          case rel => exact ⟨j + 1, _, by omega, by go_num, rfl, HO11, HB1, X1⟩
          case measure => simp [nI]; omega
      · rw [if_neg (by simp [of_decide_eq_false g1]), List.append_nil] at HFs
        rw [← HFs.out] at HO11
        go_wp2
        go_roundw
        case rel => exact ⟨j + 1, _, by omega, by go_num, rfl, HO11, HB1, X1⟩
        case measure => simp [nI]; omega
    · obtain rfl : j = l.length := by omega
      have hO := HO0.out
      rw [List.take_length] at hO
      have hml : (l.filter fun x => decide (x.at_ ≤ u) && decide (x.known ≤ k)).length ≤ l.length := List.length_filter_le _ _
      generalize (l.filter fun x => decide (x.at_ ≤ u) && decide (x.known ≤ k)) = m1 at *
      obtain ⟨C, cc, rfl, hSm⟩ := hO.sl
      have HBw := hide (show Below w.heap.size w wr from kcall HB3.out HB.out)
      have HSm := hide hSm
      clear hO HO0 hSm HB
      go_wp2_with fail
      refine (K2.out _ _ _ HBw.out HSm.out).mono ?_
      rintro e w4 ⟨rfl, hb⟩
      have HB4 := hide (kcall HBw.out hb)
      have X1 := X.out.bel hb
      have hxl := X1.lt
      have c0 := X1.cell (v := .int .i64 q1) 0 rfl
      have c1 := X1.cell (v := .int .i64 q2) 1 rfl
      have c2 := X1.cell (v := .int .i64 q3) 2 rfl
      have c3 := X1.cell (v := .int .i64 q4) 3 rfl
      clear hb K2 HSm X X1
      simp only [qV, qC]
      go_wp2
      go_ret
      exact ⟨rfl, kalloc HB4.out _⟩
theorem dlater_no (A : Option Addr) (c : Nat) (b : List Bu) (B : Option Addr) (d : Nat) (l : List Tr) (n u k : Int) (w : World) (hS : Sl buC 5 w A c b) (hT : Sl trC 7 w B d l) (hr : fewD b l = false) :
    Calls Try.prog 10 #[.slice A b.length c, .slice B l.length d, .int .i64 n, .int .i64 u, .int .i64 k] w fun e w' => e = .returned (.bool true) ∧ Below w.heap.size w w' := by
  have KS := hide (sane25 w)
  have KF := hide (fun W (h : Below w.heap.size w W) => few30 A B c d b l W (hS.bel h) (hT.bel h))
  rw [hr] at KF
  clear hS hT hr
  go_enter Try.func10, Try.ntmps10
  go_wp2_with fail
  refine KS.out.mono ?_
  rintro e w1 ⟨rfl, hb⟩
  have HB1 := hide hb
  clear hb KS
  go_wp2_with fail
  refine (KF.out _ HB1.out).mono ?_
  rintro e w2 ⟨rfl, hb⟩
  have HB2 := hide (kcall HB1.out hb)
  clear hb KF HB1
  go_wp2
  go_ret
  exact ⟨rfl, HB2.out⟩
theorem deadlinesLater_law (A : Option Addr) (c : Nat) (b : List Bu) (B : Option Addr) (d : Nat) (l : List Tr) (n u k : Int) (w : World) (hS : Sl buC 5 w A c b) (hT : Sl trC 7 w B d l) (hI : ∀ x ∈ b, BuS x) (hJ : ∀ x ∈ l, TrS x) :
    Calls Try.prog 10 #[.slice A b.length c, .slice B l.length d, .int .i64 n, .int .i64 u, .int .i64 k] w fun e w' => e = .returned (.bool true) ∧ Below w.heap.size w w' := by
  rcases Bool.eq_false_or_eq_true (fewD b l) with hr | hr
  · exact dlater_yes A c b B d l n u k w hS hT hI hJ hr
  · exact dlater_no A c b B d l n u k w hS hT hr
end Go.Proofs.Ytklndmnhhakmiaa

/-
  BudgetsKept, walked.
-/
import Derived.Test.YtklndmnhhakmiaaBM6
namespace Go.Proofs.Ytklndmnhhakmiaa
open Go.RowKit Go.Mine Go.Mine.B
attribute [local go_sem] Oper.semAt_some
set_option maxRecDepth 100000 in
set_option maxHeartbeats 8000000 in
theorem kept_yes (A : Option Addr) (c : Nat) (b : List Bu) (B : Option Addr) (d : Nat) (l : List Tr) (at_ known : Int) (w : World) (hS : Sl buC 5 w A c b) (hT : Sl trC 7 w B d l) (hI : ∀ x ∈ b, BuS x) (hJ : ∀ x ∈ l, TrS x) (hr : rightL b l [at_, known] = true) :
    Calls Try.prog 5 #[.slice A b.length c, .slice B l.length d, .int .i64 at_, .int .i64 known] w fun e w' => e = .returned (.bool true) ∧ Below w.heap.size w w' := by
  obtain ⟨ht, hl40, hz⟩ := rightL_parts hr
  have ha := argA_of (ht at_ (by simp)) (ht known (by simp))
  obtain ⟨hcb, hbl, hll⟩ := chk_zero' hz
  have KS := hide (sane14 w)
  have K3 := hide (fun W (h : Below w.heap.size w W) => standing20 A c b B d l at_ known W (hS.bel h) (hT.bel h) (BuS.all hI) (TrS.all hJ))
  rw [(stand_ok hz ha).1, (stand_ok hz ha).2] at K3
  have K23 := hide (fun W (h : Below w.heap.size w W) => (show Calls Try.prog 23 #[.slice A b.length c, .slice B l.length d, .slice (some ⟨W.heap.size, 0, none⟩) 2 2] (W.alloc (.cells #[.int .i64 at_, .int .i64 known] 3)) _ from right23 A c b B d l (some ⟨W.heap.size, 0, none⟩) 2 [at_, known] (W.alloc (.cells #[.int .i64 at_, .int .i64 known] 3)) (hS.bel (kalloc h _)) (hT.bel (kalloc h _)) (blit ic 1 W 3 [at_, known] 2 rfl rfl (fun _ _ => rfl) rfl (by decide))))
  rw [hr] at K23
  have K18 := hide (fun A9 c9 W (h : Below w.heap.size w W) (h9 : Sl buC 5 W A9 c9 (standing b l at_ known)) => check18 A9 c9 (standing b l at_ known) B d l W h9 (hT.bel h) (stand_lang at_ known (BuS.all hI)) (TrS.all hJ))
  rw [chk_stand hz at_ known (List.Sublist.refl l)] at K18
  have HLl := hide (standing_len b l at_ known)
  have HK := hide (fun k y (h : b[k]? = some y) => kept_at hcb at_ known h)
  have HQ := hide (sumQ_stand hcb at_ known)
  have HS := hide hS
  have HT := hide hT
  have hlb := hS.le
  have hmb := hS.max
  have hlt := hT.le
  have hmt := hT.max
  generalize standing b l at_ known = L at *
  have gl : ((L.length : Int) != (b.length : Int)) = false := by simp [HLl.out]
  clear hS hT hI hJ hr ht ha hz hcb hll
  have e24 := eq24
  go_enter Try.func5, Try.ntmps5
  go_wp2_with fail
  refine KS.out.mono ?_
  rintro e w1 ⟨rfl, hb⟩
  have HB1 := hide hb
  clear hb KS
  go_wp2_with fail
  refine (K23.out _ HB1.out).mono ?_
  rintro e w2 ⟨rfl, hb⟩
  have HB2 := hide (kcall (kalloc HB1.out (.cells #[.int .i64 at_, .int .i64 known] 3)) hb)
  clear hb K23 HB1
  go_wp2_with fail
  refine (K3.out _ HB2.out).mono ?_
  rintro e w3 ⟨A9, c9, rfl, h9, hb⟩
  have HB3 := hide (kcall HB2.out hb)
  have H9 := hide h9
  clear h9 hb K3 HB2
  go_wp2_with fail
  refine (K18.out _ _ _ HB3.out H9.out).mono ?_
  rintro e w5 ⟨rfl, hb⟩
  have HB5 := hide (kcall HB3.out hb)
  have HS5 := hide (HS.out.bel HB5.out)
  have HT5 := hide (HT.out.bel HB5.out)
  have H95 := hide (H9.out.bel hb)
  have h9l := H9.out.le
  have h9m := H9.out.max
  clear hb K18 HB3 H9 HS HT
  have hw5 := HB5.out.size
  have X1 := hide ((Blk.new w5 (qC q0).toArray 24).alloc (.cells (qC q0).toArray 24))
  have X2 := hide (Blk.new1 w5 (.cells (qC q0).toArray 24) (qC q0).toArray 24)
  have HBw := hide (kalloc (kalloc (Below.refl w5.heap.size w5) (.cells (qC q0).toArray 24)) (.cells (qC q0).toArray 24))
  simp only [qC, q0] at X1 X2 HBw
  go_wp2
  go_loopw [13, 14, 16, 17, 52, 66, 67, 68, 107] (fun _ _ _ _ i _ _ _ _ wr => ∃ (k : Nat) (a a2 : Q), k ≤ b.length ∧ i = .int .i64 k ∧ Hid (a = sumQ (b.take k)) ∧ Hid (a2 = sumQ (L.take k)) ∧ Hid (okS k a) ∧ Hid (okS k a2) ∧ Hid (Blk wr w5.heap.size 24 (qC a).toArray) ∧ Hid (Blk wr (w5.heap.size + 1) 24 (qC a2).toArray) ∧ Hid (Below w5.heap.size w5 wr)) (fun _ _ _ _ i _ _ _ _ _ => b.length - (nI i).toNat)
  case atStart => exact ⟨0, q0, q0, Nat.zero_le _, rfl, rfl, rfl, (show okS 0 q0 by unfold okS q0; simp), (show okS 0 q0 by unfold okS q0; simp), X1, X2, HBw⟩
  case round =>
    obtain ⟨k, a, a2, hk, rfl, HA, HA2, HO, HO2, X1, X2, HB⟩ := hrel
    by_cases hlt2 : k < b.length
    · obtain ⟨y, g, off, hy, _, rfl, hgw, p1, p2, p3, p4, p5⟩ := Sl.bu_at (HS5.out.bel HB.out) hlt2
      obtain ⟨q, hq, ok1, ok2, hoth⟩ := HK.out k y hy
      have hl9 : k < L.length := by have := HLl.out; omega
      obtain ⟨y', g9, off9, hy', _, rfl, hgw9, r1, r2, r3, r4, r5⟩ := Sl.bu_at (H95.out.bel HB.out) hl9
      obtain rfl : y' = ⟨y.lang, q⟩ := by rw [hy'] at hq; exact Option.some.inj hq
      simp only at r1 r2 r3 r4 r5
      have kz : (k : Int) < (L.length : Int) := by omega
      have HY := hide hy
      have HY' := hide hy'
      have HOT := hide hoth
      have HOK := hide (And.intro ok1 ok2)
      have HAO := hide (And.intro HO.out HO2.out)
      clear hy hy' hq hoth ok1 ok2 hl9 HO HO2
      go_wp2_with fail
      refine wp_still_all (by kernel_rfl) (by kernel_rfl) ?_
      repeat ((with_reducible refine wpStill_step (fun K hK => ?_)); go_simp; (try go_bits); (with_reducible refine hK _ ?_); clear hK K)
      (with_reducible refine wpStill_nil ?_)
      have HBd := hide HB.out.drew
      have X1d := hide X1.out.drew
      have X2d := hide X2.out.drew
      clear p1 p2 p3 p4 p5 r1 r2 r3 r4 r5 HB X1 X2
      go_wp2
      go_loopw [14, 16, 68] (fun v14 _ i w2 => ∃ (j : Nat) (r : Bool), j ≤ l.length ∧ i = .int .i64 j ∧ v14 = .bool r ∧ Hid (r = (l.take j).any (nm y.lang)) ∧ Hid (Blk w2 w5.heap.size 24 (qC a).toArray) ∧ Hid (Blk w2 (w5.heap.size + 1) 24 (qC a2).toArray) ∧ Hid (Below w5.heap.size w5 w2)) (fun _ _ i _ => l.length - (nI i).toNat)
      case atStart => exact ⟨0, false, Nat.zero_le _, rfl, rfl, rfl, X1d, X2d, HBd⟩
      case round =>
        clear X1d X2d HBd
        obtain ⟨j, r, hj, rfl, rfl, HR, X1, X2, HB⟩ := hrel
        by_cases hlt3 : j < l.length
        · obtain ⟨x, gx, offx, hx, _, rfl, hgx, t0, t1, t2, t3, t4, t5, t6⟩ := Sl.tr_at (HT5.out.bel HB.out) hlt3
          obtain ⟨y2, _, _, hy2, _, hAA, hgw, p1, _⟩ := Sl.bu_at (HS5.out.bel HB.out) hlt2
          cases hAA
          obtain rfl : y2 = y := by rw [HY.out] at hy2; exact (Option.some.inj hy2).symm
          have hR := HR.out
          have hx1 : (l.take (j + 1)).any (nm y2.lang) = ((l.take j).any (nm y2.lang) || ((x.fr == y2.lang) || (x.to == y2.lang))) := by
            rw [take_of_get hx, List.any_append]; simp [nm]
          rw [← hR] at hx1
          have hx1 := hx1.symm
          have X1a := hide (X1.out.alloc (.cells (trC x).toArray 40))
          have X2a := hide (X2.out.alloc (.cells (trC x).toArray 40))
          have HBa := hide (kalloc HB.out (.cells (trC x).toArray 40))
          have jz : (j : Int) < (l.length : Int) := by omega
          generalize y2.lang = n at *
          obtain ⟨x1, x2, x3, x4, x5, x6, x7⟩ := x
          simp only [trC] at *
          clear hx hy2 hR HR X1 X2 HB hj
          cases r
          · rcases Bool.eq_false_or_eq_true (x5 == n) with g1 | g1
            · rw [g1, Bool.true_or, Bool.or_true] at hx1
              have HX1 := hide hx1
              clear hx1
              go_wp2_with fail
              refine wp_still_all (by kernel_rfl) (by kernel_rfl) ?_
              repeat ((with_reducible refine wpStill_step (fun K hK => ?_)); go_simp; (try go_bits); (with_reducible refine hK _ ?_); clear hK K)
              (with_reducible refine wpStill_nil ?_)
              go_wp2
              go_roundw
              case rel => exact ⟨j + 1, true, by omega, by go_num, rfl, HX1, X1a.out.drew, X2a.out.drew, HBa.out.drew⟩
              case measure => simp [nI]; omega
            · rcases Bool.eq_false_or_eq_true (x6 == n) with g2 | g2
              · rw [g2, Bool.or_true, Bool.or_true] at hx1
                have HX1 := hide hx1
                clear hx1
                go_wp2_with fail
                refine wp_still_all (by kernel_rfl) (by kernel_rfl) ?_
                repeat ((with_reducible refine wpStill_step (fun K hK => ?_)); go_simp; (try go_bits); (with_reducible refine hK _ ?_); clear hK K)
                (with_reducible refine wpStill_nil ?_)
                go_wp2
                go_roundw
                case rel => exact ⟨j + 1, true, by omega, by go_num, rfl, HX1, X1a.out.drew, X2a.out.drew, HBa.out.drew⟩
                case measure => simp [nI]; omega
              · rw [g1, g2] at hx1
                simp only [Bool.or_false] at hx1
                have HX1 := hide hx1
                clear hx1
                go_wp2_with fail
                refine wp_still_all (by kernel_rfl) (by kernel_rfl) ?_
                repeat ((with_reducible refine wpStill_step (fun K hK => ?_)); go_simp; (try go_bits); (with_reducible refine hK _ ?_); clear hK K)
                (with_reducible refine wpStill_nil ?_)
                go_wp2
                go_roundw
                case rel => exact ⟨j + 1, false, by omega, by go_num, rfl, HX1, X1a.out.drew, X2a.out.drew, HBa.out.drew⟩
                case measure => simp [nI]; omega
          · rw [Bool.true_or] at hx1
            have HX1 := hide hx1
            clear hx1
            go_wp2_with fail
            refine wp_still_all (by kernel_rfl) (by kernel_rfl) ?_
            repeat ((with_reducible refine wpStill_step (fun K hK => ?_)); go_simp; (try go_bits); (with_reducible refine hK _ ?_); clear hK K)
            (with_reducible refine wpStill_nil ?_)
            go_wp2
            go_roundw
            case rel => exact ⟨j + 1, true, by omega, by go_num, rfl, HX1, X1a.out.drew, X2a.out.drew, HBa.out.drew⟩
            case measure => simp [nI]; omega
        · obtain rfl : j = l.length := by omega
          have hR := HR.out
          rw [List.take_length] at hR
          obtain ⟨y2, _, _, hy2, _, hAA, hgw, p1, p2, p3, p4, p5⟩ := Sl.bu_at (HS5.out.bel HB.out) hlt2
          cases hAA
          obtain rfl : y2 = y := by rw [HY.out] at hy2; exact (Option.some.inj hy2).symm
          obtain ⟨y3, _, _, hy3, _, hAA, hgw9, r1, r2, r3, r4, r5⟩ := Sl.bu_at (H95.out.bel HB.out) (show k < L.length by have := HLl.out; omega)
          cases hAA
          obtain rfl : y3 = ⟨y2.lang, q⟩ := by rw [HY'.out] at hy3; exact (Option.some.inj hy3).symm
          simp only at r1 r2 r3 r4 r5
          have HEQ := hide (fun h : r = false => congrArg Bu.q (HOT.out (hR.symm.trans h)))
          obtain ⟨yn, yq⟩ := y2
          simp only at *
          have X1e := hide X1.out.drew
          have X2e := hide X2.out.drew
          have HBe := hide HB.out.drew
          clear hy2 hy3 hR HR X1 X2 HB hj HOT
          cases r
          case' false => rw [← HEQ.out rfl] at r2 r3 r4 r5
          all_goals
            clear HEQ
            go_wp2_with fail
            refine wp_still_all (by kernel_rfl) (by kernel_rfl) ?_
            repeat ((with_reducible refine wpStill_step (fun K hK => ?_)); go_simp; (try go_bits); (with_reducible refine hK _ ?_); clear hK K)
            (with_reducible refine wpStill_nil ?_)
            clear p1 p2 p3 p4 p5 r1 r2 r3 r4 r5
            go_wp2
            go_loopw [17, 107] (fun _ i w3 => ∃ s : Nat, s ≤ 4 ∧ i = .int .i64 s ∧ Hid (Blk w3 w5.heap.size 24 (qC (addS a yq s)).toArray) ∧ Hid (Blk w3 (w5.heap.size + 1) 24 (qC (addS a2 q s)).toArray) ∧ Hid (Below w5.heap.size w5 w3)) (fun _ i _ => 4 - (nI i).toNat)
            case atStart => exact ⟨0, Nat.zero_le _, rfl, X1e, X2e, HBe⟩
            case round =>
              clear X1e X2e HBe
              obtain ⟨s, hs, rfl, X1, X2, HB⟩ := hrel
              by_cases hs4 : s < 4
              · have c1 := X1.out.cell s (qC_get (addS a yq s) s hs4)
                rw [addS_get _ _ hs4] at c1
                have c2 := bu_q (HS5.out.bel HB.out) HY.out hs4
                have b1 := okS_get HAO.out.1 (s : Int)
                have b2 := okQ_get HOK.out.1 (s : Int)
                have b3 := okS_get HAO.out.2 (s : Int)
                have b4 := okQ_get HOK.out.2 (s : Int)
                unfold most at b2 b4
                simp only at c2 b2 b4
                have HX1 := hide (show Blk (wr.drew.setCell ⟨w5.heap.size, s, none⟩ (.int .i64 (qg a (s : Int) + qg yq (s : Int)))) w5.heap.size 24 (qC (addS a yq (s + 1))).toArray from X1.out.drew.set s _ (qC_set (addS a yq s) s hs4 _))
                have HX2 := hide (X2.out.drew.far ⟨w5.heap.size, s, none⟩ (.int .i64 (qg a (s : Int) + qg yq (s : Int))) (by show w5.heap.size + 1 ≠ w5.heap.size; omega))
                have HBb := hide (HB.out.drew.setCell (p := ⟨w5.heap.size, s, none⟩) (Nat.le_refl _) (.int .i64 (qg a (s : Int) + qg yq (s : Int))))
                have z1 := X1.out.thaw s
                have m1 := X1.out.lt
                have m2 := X2.out.lt
                have hs4z : (s : Int) < 4 := by omega
                have w1s : IntKind.i64.wrap (qg a (s : Int) + qg yq (s : Int)) = qg a (s : Int) + qg yq (s : Int) := by rw [IntKind.wrap_i64]; omega
                have w2s : IntKind.i64.wrap (qg a2 (s : Int) + qg q (s : Int)) = qg a2 (s : Int) + qg q (s : Int) := by rw [IntKind.wrap_i64]; omega
                have HW2 := hide w2s
                generalize qg a (s : Int) = u1 at *
                generalize qg yq (s : Int) = u2 at *
                have hgw2 : g < wr.heap.size := (HS5.out.bel HB.out |> fun h => by obtain ⟨_, _, _, _, _, hAA, hg, _⟩ := Sl.bu_at h hlt2; cases hAA; exact hg)
                have HBc := hide (And.intro b1 (And.intro b2 (And.intro b3 b4)))
                clear b1 b2 b3 b4 w2s X1 X2 HB
                go_wp2_with fail
                refine wp_still_tail 11 (by kernel_rfl) (by kernel_rfl) ?_
                simp only [List.take_succ_cons, List.take_zero, List.drop_succ_cons, List.drop_zero]
                repeat ((with_reducible refine wpStill_step (fun K hK => ?_)); go_simp; (try go_bits); (with_reducible refine hK _ ?_); clear hK K)
                (with_reducible refine wpStill_nil ?_)
                go_wp2_with fail
                refine at_world (fun w4 => Blk w4 w5.heap.size 24 (qC (addS a yq (s + 1))).toArray ∧ Blk w4 (w5.heap.size + 1) 24 (qC (addS a2 q s)).toArray ∧ Below w5.heap.size w5 w4) ⟨HX1.out, HX2.out, HBb.out⟩ ?_
                clear HX1 HX2 HBb c1 c2 z1 m1 m2 w1s hgw2
                rintro w4 ⟨X1, X2, hB⟩
                have c3 := X2.cell s (qC_get (addS a2 q s) s hs4)
                rw [addS_get _ _ hs4] at c3
                have c4 := bu_q (H95.out.bel hB) HY'.out hs4
                simp only at c4
                have HX1 := hide (X1.drew.far ⟨w5.heap.size + 1, s, none⟩ (.int .i64 (qg a2 (s : Int) + qg q (s : Int))) (by show w5.heap.size ≠ w5.heap.size + 1; omega))
                have HX2 := hide (show Blk (w4.drew.setCell ⟨w5.heap.size + 1, s, none⟩ (.int .i64 (qg a2 (s : Int) + qg q (s : Int)))) (w5.heap.size + 1) 24 (qC (addS a2 q (s + 1))).toArray from X2.drew.set s _ (qC_set (addS a2 q s) s hs4 _))
                have HBb := hide (hB.drew.setCell (p := ⟨w5.heap.size + 1, s, none⟩) (Nat.le_succ _) (.int .i64 (qg a2 (s : Int) + qg q (s : Int))))
                have z1 := X2.thaw s
                have m1 := X1.lt
                have m2 := X2.lt
                have w2s := HW2.out
                generalize qg a2 (s : Int) = u3 at *
                generalize qg q (s : Int) = u4 at *
                have hgw2 : g9 < w4.heap.size := (H95.out.bel hB |> fun h => by obtain ⟨_, _, _, _, _, hAA, hg, _⟩ := Sl.bu_at h (show k < L.length by have := HLl.out; omega); cases hAA; exact hg)
                clear X1 X2 hB
                refine wp_still_tail 11 (by kernel_rfl) (by kernel_rfl) ?_
                simp only [List.take_succ_cons, List.take_zero, List.drop_succ_cons, List.drop_zero]
                repeat ((with_reducible refine wpStill_step (fun K hK => ?_)); go_simp; (try go_bits); (with_reducible refine hK _ ?_); clear hK K)
                (with_reducible refine wpStill_nil ?_)
                go_wp2
                go_roundw
                case rel => exact ⟨s + 1, by omega, by go_num, HX1, HX2, HBb⟩
                case measure => simp [nI]; omega
              · obtain rfl : s = 4 := by omega
                go_wp2
                go_roundw
                case rel => exact ⟨k + 1, _, _, by omega, by go_num, by rw [HA.out]; exact (sumQ_next HY.out).symm, by rw [HA2.out]; exact (sumQ_next HY'.out).symm, okS_next HAO.out.1 HOK.out.1, okS_next HAO.out.2 HOK.out.2, X1, X2, HB⟩
                case measure => simp [nI]; omega
    · obtain rfl : k = b.length := by omega
      have hA := HA.out
      have hA2 := HA2.out
      rw [List.take_length] at hA
      rw [← HLl.out, List.take_length, HQ.out, ← hA] at hA2
      subst hA2
      have d0 := X1.out.cell (v := .int .i64 a2.1) 0 rfl
      have d1 := X1.out.cell (v := .int .i64 a2.2.1) 1 rfl
      have d2 := X1.out.cell (v := .int .i64 a2.2.2.1) 2 rfl
      have d3 := X1.out.cell (v := .int .i64 a2.2.2.2) 3 rfl
      have s0 := X2.out.cell (v := .int .i64 a2.1) 0 rfl
      have s1 := X2.out.cell (v := .int .i64 a2.2.1) 1 rfl
      have s2 := X2.out.cell (v := .int .i64 a2.2.2.1) 2 rfl
      have s3 := X2.out.cell (v := .int .i64 a2.2.2.2) 3 rfl
      have m1 := X1.out.lt
      have m2 := X2.out.lt
      clear hA
      go_wp2
      go_ret
      exact ⟨rfl, kcall HB5.out HB.out⟩
theorem kept_no (A : Option Addr) (c : Nat) (b : List Bu) (B : Option Addr) (d : Nat) (l : List Tr) (at_ known : Int) (w : World) (hS : Sl buC 5 w A c b) (hT : Sl trC 7 w B d l) (hr : rightL b l [at_, known] = false) :
    Calls Try.prog 5 #[.slice A b.length c, .slice B l.length d, .int .i64 at_, .int .i64 known] w fun e w' => e = .returned (.bool true) ∧ Below w.heap.size w w' := by
  have KS := hide (sane14 w)
  have K23 := hide (fun W (h : Below w.heap.size w W) => (show Calls Try.prog 23 #[.slice A b.length c, .slice B l.length d, .slice (some ⟨W.heap.size, 0, none⟩) 2 2] (W.alloc (.cells #[.int .i64 at_, .int .i64 known] 3)) _ from right23 A c b B d l (some ⟨W.heap.size, 0, none⟩) 2 [at_, known] (W.alloc (.cells #[.int .i64 at_, .int .i64 known] 3)) (hS.bel (kalloc h _)) (hT.bel (kalloc h _)) (blit ic 1 W 3 [at_, known] 2 rfl rfl (fun _ _ => rfl) rfl (by decide))))
  rw [hr] at K23
  clear hS hT hr
  go_enter Try.func5, Try.ntmps5
  go_wp2_with fail
  refine KS.out.mono ?_
  rintro e w1 ⟨rfl, hb⟩
  have HB1 := hide hb
  clear hb KS
  go_wp2_with fail
  refine (K23.out _ HB1.out).mono ?_
  rintro e w2 ⟨rfl, hb⟩
  have HB2 := hide (kcall (kalloc HB1.out (.cells #[.int .i64 at_, .int .i64 known] 3)) hb)
  clear hb K23 HB1
  go_wp2
  go_ret
  exact ⟨rfl, HB2.out⟩
theorem budgetsKept_law (A : Option Addr) (c : Nat) (b : List Bu) (B : Option Addr) (d : Nat) (l : List Tr) (at_ known : Int) (w : World) (hS : Sl buC 5 w A c b) (hT : Sl trC 7 w B d l) (hI : ∀ x ∈ b, BuS x) (hJ : ∀ x ∈ l, TrS x) :
    Calls Try.prog 5 #[.slice A b.length c, .slice B l.length d, .int .i64 at_, .int .i64 known] w fun e w' => e = .returned (.bool true) ∧ Below w.heap.size w w' := by
  rcases Bool.eq_false_or_eq_true (rightL b l [at_, known]) with hr | hr
  · exact kept_yes A c b B d l at_ known w hS hT hI hJ hr
  · exact kept_no A c b B d l at_ known w hS hT hr
end Go.Proofs.Ytklndmnhhakmiaa

/-
  DeadlinesTrades, walked.
-/
import Derived.Test.YtklndmnhhakmiaaDLaw2
namespace Go.Proofs.Ytklndmnhhakmiaa
open Go.RowKit Go.Mine Go.Mine.B
attribute [local go_sem] Oper.semAt_some
set_option maxRecDepth 100000 in
set_option maxHeartbeats 8000000 in
theorem trades_yes (A : Option Addr) (c : Nat) (b : List Bu) (B : Option Addr) (d : Nat) (l : List Tr) (u k : Int) (w : World) (hS : Sl buC 5 w A c b) (hT : Sl trC 7 w B d l) (hI : ∀ x ∈ b, BuS x) (hJ : ∀ x ∈ l, TrS x) (hr : fewD b l = true) (hu : timeB u = true) (hk : timeB k = true) :
    Calls Try.prog 13 #[.slice A b.length c, .slice B l.length d, .int .i64 u, .int .i64 k] w fun e w' => e = .returned (.bool true) ∧ Below w.heap.size w w' := by
  obtain ⟨hbl, hl40, hz, hcb⟩ := fewD_parts hr
  have ha := argA_of hu hk
  have KS := hide (sane25 w)
  have KF := hide (fun W (h : Below w.heap.size w W) => few30 A B c d b l W (hS.bel h) (hT.bel h))
  rw [hr] at KF
  have KT := hide (times31_two u k)
  rw [hu, hk] at KT
  have K20 := hide (fun W (h : Below w.heap.size w W) => standing20 A c b B d l u k W (hS.bel h) (hT.bel h) (BuS.all hI) (TrS.all hJ))
  rw [(stand_ok hz ha).1, (stand_ok hz ha).2] at K20
  have K26 := hide (fun (y : Bu) (hy : y ∈ b) W (h : Below w.heap.size w W) => due26_at hz (BuS.all hI) (TrS.all hJ) hy hu hk (hS.bel h) (hT.bel h))
  have K27 := hide (fun (y : Bu) (hy : y ∈ b) W (h : Below w.heap.size w W) => due26_nil hz (BuS.all hI) hy hu hk (hS.bel h))
  have HAT := hide (fun i (y : Bu) (hy : b[i]? = some y) => stand_at hcb u k hy)
  have HQ := hide (sumQ_due hcb u k)
  have HTQ := hide (fun q (hq : okQ q) => okT_tq hq hu)
  have HLl := hide (standing_len b l u k)
  have HS := hide hS
  have hlb := hS.le
  have hmb := hS.max
  have hut := timeB_iff.1 hu
  generalize hst : standing b l u k = L at *
  have gl : ((L.length : Int) != (b.length : Int)) = false := by simp [HLl.out]
  clear hS hT hI hJ hr ha hz hcb hu hk hst
  have e24 := eq24
  go_enter Try.func13, Try.ntmps13
  go_wp2_with fail
  refine KS.out.mono ?_
  rintro e w1 ⟨rfl, hb⟩
  have HB1 := hide hb
  clear hb KS
  go_wp2_with fail
  refine (KF.out _ HB1.out).mono ?_
  rintro e w2 ⟨rfl, hb⟩
  have HB2 := hide (kcall HB1.out hb)
  clear hb KF HB1
  go_wp2_with fail
  with_reducible refine (KT.out _ _ rfl).mono ?_
  rintro e w' ⟨rfl, rfl⟩
  go_wp2_with fail
  refine (K20.out _ (kalloc HB2.out _)).mono ?_
  rintro e w3 ⟨A9, c9, rfl, h9, hb⟩
  have HB3 := hide (kcall (kalloc HB2.out (.cells #[.int .i64 u, .int .i64 k] 3)) hb)
  have H9 := hide h9
  have h9l := h9.le
  have h9m := h9.max
  clear h9 hb K20 HB2 KT
  have hw3 := HB3.out.size
  have HS3 := hide (HS.out.bel HB3.out)
  have X1 := hide ((Blk.new w3 (qC q0).toArray 24).alloc (.cells (qC q0).toArray 24))
  have X2 := hide (Blk.new1 w3 (.cells (qC q0).toArray 24) (qC q0).toArray 24)
  have HBw := hide (kalloc (kalloc (Below.refl w3.heap.size w3) (.cells (qC q0).toArray 24)) (.cells (qC q0).toArray 24))
  simp only [qC, q0] at X1 X2 HBw
  go_wp2
  go_loopw [13, 14, 15, 16, 17, 18, 19, 20, 21, 22, 23, 56, 97, 98] (fun _ _ _ _ _ _ _ _ _ _ _ i _ _ wr => ∃ (j : Nat) (a a2 : Q), j ≤ b.length ∧ i = .int .i64 j ∧ Hid (a = sumQ ((duB L u).take j)) ∧ Hid (a2 = sumQ ((duB b u).take j)) ∧ Hid (okW j a) ∧ Hid (okW j a2) ∧ Hid (Blk wr w3.heap.size 24 (qC a).toArray) ∧ Hid (Blk wr (w3.heap.size + 1) 24 (qC a2).toArray) ∧ Hid (Below w3.heap.size w3 wr)) (fun _ _ _ _ _ _ _ _ _ _ _ i _ _ _ => b.length - (nI i).toNat)
  case atStart => exact ⟨0, q0, q0, Nat.zero_le _, rfl, rfl, rfl, (show okW 0 q0 by unfold okW q0; simp), (show okW 0 q0 by unfold okW q0; simp), X1, X2, HBw⟩
  case round =>
    clear X1 X2 HBw
    obtain ⟨j, a, a2, hj, rfl, HA, HA2, HO, HO2, X1, X2, HB⟩ := hrel
    by_cases hlt2 : j < b.length
    · obtain ⟨y, g, off, hy, _, rfl, hgw, p1, p2, p3, p4, p5⟩ := Sl.bu_at (HS3.out.bel HB.out) hlt2
      have hym := List.mem_of_getElem? hy
      obtain ⟨hLy, hq, hrb, hyq⟩ := HAT.out j y hy
      have K1 := hide (K26.out y hym)
      have K2 := hide (K27.out y hym)
      have K3 := hide (fun (s : Nat) (hs : s < 4) W => path16_ok hrb hs W)
      have HN1 := hide (duB_at (u := u) hLy)
      have HN2 := hide (duB_at (u := u) hy)
      have HT1 := hide (HTQ.out _ hq)
      have HT2 := hide (HTQ.out _ hyq)
      have HLA := hide (fun s (hs : s < 4) => lastT_le hq u hs)
      have HPO := hide (fun s : Nat => path_ok hq (s : Int))
      have HQG := hide (fun s (hs : s < 4) => qg_tq (stq b l y.lang u k) u (s := ((s : Nat) : Int)) ⟨by omega, by omega⟩)
      have HLY := hide hLy
      have HY := hide hy
      have jz : (j : Int) < (L.length : Int) := by have := HLl.out; omega
      generalize stq b l y.lang u k = q at *
      generalize hr1 : tq q u = r1 at *
      generalize hr2 : tq y.q u = r2 at *
      obtain ⟨yn, yq1, yq2, yq3, yq4⟩ := y
      obtain ⟨r11, r12, r13, r14⟩ := r1
      obtain ⟨r21, r22, r23, r24⟩ := r2
      simp only at *
      have HBa := hide (kalloc HB.out (.cells #[.int .i64 yn, .int .i64 yq1, .int .i64 yq2, .int .i64 yq3, .int .i64 yq4] 26))
      have XY := hide (Blk.new wr #[.int .i64 yn, .int .i64 yq1, .int .i64 yq2, .int .i64 yq3, .int .i64 yq4] 26)
      have X1a := hide (X1.out.alloc (.cells #[.int .i64 yn, .int .i64 yq1, .int .i64 yq2, .int .i64 yq3, .int .i64 yq4] 26))
      have X2a := hide (X2.out.alloc (.cells #[.int .i64 yn, .int .i64 yq1, .int .i64 yq2, .int .i64 yq3, .int .i64 yq4] 26))
      clear hy hym hLy hq hrb hyq hr1 hr2 X1 X2
      go_wp2_with fail
      refine (K1.out _ (kcall HB3.out HBa.out)).mono ?_
      rintro e w5 ⟨rfl, hb⟩
      have HB5 := hide (kcall HBa.out hb)
      have XY5 := hide (XY.out.bel hb)
      have X1b := hide (X1a.out.bel hb)
      have X2b := hide (X2a.out.bel hb)
      clear hb K1 XY X1a X2a HBa HB
      simp only [qV, qC]
      have XY5c := hide (XY5.out.alloc (.cells #[.int .i64 r11, .int .i64 r12, .int .i64 r13, .int .i64 r14] 24))
      have X1c := hide (X1b.out.alloc (.cells #[.int .i64 r11, .int .i64 r12, .int .i64 r13, .int .i64 r14] 24))
      have X2c := hide (X2b.out.alloc (.cells #[.int .i64 r11, .int .i64 r12, .int .i64 r13, .int .i64 r14] 24))
      have HB5c := hide (kalloc HB5.out (.cells #[.int .i64 r11, .int .i64 r12, .int .i64 r13, .int .i64 r14] 24))
      have XD := hide (Blk.new w5 #[.int .i64 r11, .int .i64 r12, .int .i64 r13, .int .i64 r14] 24)
      have yc0 := XY5.out.cell (v := .int .i64 yn) 0 rfl
      have yl := XY5.out.lt
      clear XY5 X1b X2b HB5 p1 p2 p3 p4 p5
      go_wp2_with fail
      refine (K2.out _ (kcall HB3.out HB5c.out)).mono ?_
      rintro e w6 ⟨rfl, hb⟩
      have HB6 := hide (kalloc (kcall HB5c.out hb) (.cells #[.int .i64 r21, .int .i64 r22, .int .i64 r23, .int .i64 r24] 24))
      have XY6 := hide ((XY5c.out.bel hb).alloc (.cells #[.int .i64 r21, .int .i64 r22, .int .i64 r23, .int .i64 r24] 24))
      have X16 := hide ((X1c.out.bel hb).alloc (.cells #[.int .i64 r21, .int .i64 r22, .int .i64 r23, .int .i64 r24] 24))
      have X26 := hide ((X2c.out.bel hb).alloc (.cells #[.int .i64 r21, .int .i64 r22, .int .i64 r23, .int .i64 r24] 24))
      have XD6 := hide ((XD.out.bel hb).alloc (.cells #[.int .i64 r21, .int .i64 r22, .int .i64 r23, .int .i64 r24] 24))
      have XE6 := hide (Blk.new w6 #[.int .i64 r21, .int .i64 r22, .int .i64 r23, .int .i64 r24] 24)
      have HE6 := hide (show w3.heap.size + 1 < w6.heap.size from Nat.lt_of_lt_of_le X2c.out.lt hb.size)
      clear hb K2 XY5c X1c X2c HB5c XD yc0 yl
      simp only [qV, qC]
      obtain ⟨y2, g9, off9, hy2, _, rfl, hgw9, o1, o2, o3, o4, o5⟩ := Sl.bu_at (H9.out.bel HB6.out) (show j < L.length by have := HLl.out; omega)
      obtain rfl : y2 = ⟨yn, q⟩ := by rw [HLY.out] at hy2; exact (Option.some.inj hy2).symm
      simp only at o1 o2 o3 o4 o5
      clear hy2
      have yc0 := XY6.out.cell (v := .int .i64 yn) 0 rfl
      have yl := XY6.out.lt
      have dl := XD6.out.lt
      have d0 := XD6.out.cell (v := .int .i64 r11) 0 rfl
      have d1 := XD6.out.cell (v := .int .i64 r12) 1 rfl
      have d2 := XD6.out.cell (v := .int .i64 r13) 2 rfl
      have d3 := XD6.out.cell (v := .int .i64 r14) 3 rfl
      go_wp2_with fail
      refine wp_still_all (by kernel_rfl) (by kernel_rfl) ?_
      repeat ((with_reducible refine wpStill_step (fun K hK => ?_)); go_simp; (try go_bits); (with_reducible refine hK _ ?_); clear hK K)
      (with_reducible refine wpStill_nil ?_)
      clear yc0 yl o1 o2 o3 o4 o5 XD6 XY6
      have X1e := hide X16.out.drew
      have X2e := hide X26.out.drew
      have XEe := hide XE6.out.drew
      have HBe := hide HB6.out.drew
      have HA0 := hide (And.intro HO.out HO2.out)
      simp only [buV, buC] at K3
      clear X16 X26 XE6 HB6 HO HO2
      go_wp2
      clear dl d0 d1 d2 d3
      go_loopw [19, 20, 21, 22, 23, 98] (fun v19 _ _ _ _ i w8 => ∃ s : Nat, s ≤ 4 ∧ i = .int .i64 s ∧ v19 = .int .i64 (lastT q u s) ∧ Hid (Blk w8 w3.heap.size 24 (qC (addS a (r11, r12, r13, r14) s)).toArray) ∧ Hid (Blk w8 (w3.heap.size + 1) 24 (qC (addS a2 (r21, r22, r23, r24) s)).toArray) ∧ Hid (Blk w8 w6.heap.size 24 #[.int .i64 r21, .int .i64 r22, .int .i64 r23, .int .i64 r24]) ∧ Hid (Below w3.heap.size w3 w8)) (fun _ _ _ _ _ i _ => 4 - (nI i).toNat)
      case atStart => exact ⟨0, Nat.zero_le _, rfl, rfl, X1e, X2e, XEe, HBe⟩
      case round =>
        clear X1e X2e XEe HBe
        obtain ⟨s, hs, rfl, rfl, X1, X2, XE, HB⟩ := hrel
        by_cases hs4 : s < 4
        · have hsz : (s : Int) < 4 := by omega
          have hix := fun W => ix24 r11 r12 r13 r14 s hs4 W
          rw [HQG.out s hs4] at hix
          have hc1 := qC_get (addS a (r11, r12, r13, r14) s) s hs4
          rw [show qg (addS a (r11, r12, r13, r14) s) (s : Int) = qg a (s : Int) from addS_get _ _ hs4] at hc1
          have HC1 := hide hc1
          have b1 := okW_get HA0.out.1 (s : Int)
          have b2 := okT_get HT1.out (s : Int)
          rw [HQG.out s hs4] at b2
          have b3 := okW_get HA0.out.2 (s : Int)
          have b4 := okT_get HT2.out (s : Int)
          have HX1 := (show addS a (r11, r12, r13, r14) (s + 1) = qs (addS a (r11, r12, r13, r14) s) (s : Int) (qg a (s : Int) + qg (r11, r12, r13, r14) (s : Int)) from rfl)
          rw [HQG.out s hs4] at HX1
          have HX1 := hide HX1
          have HX2 := hide (show addS a2 (r21, r22, r23, r24) (s + 1) = qs (addS a2 (r21, r22, r23, r24) s) (s : Int) (qg a2 (s : Int) + qg (r21, r22, r23, r24) (s : Int)) from rfl)
          have HLS := hide (show lastT q u (s + 1) = u + path q (s : Int) from rfl)
          have hla := HLA.out s hs4
          have hpo := HPO.out s
          have hc2 := hide (qC_get (addS a2 (r21, r22, r23, r24) s) s hs4)
          have hc2 := hc2.out
          rw [show qg (addS a2 (r21, r22, r23, r24) s) (s : Int) = qg a2 (s : Int) from addS_get _ _ hs4] at hc2
          have HC2 := hide hc2
          have HCE := hide (qC_get (r21, r22, r23, r24) s hs4)
          have HS1 := hide (qC_set (addS a (r11, r12, r13, r14) s) s hs4)
          have HS2 := hide (qC_set (addS a2 (r21, r22, r23, r24) s) s hs4)
          have K := hide (K3.out s hs4)
          have w0s : IntKind.i64.wrap (u + path q (s : Int)) = u + path q (s : Int) := by rw [IntKind.wrap_i64]; omega
          have w1s : IntKind.i64.wrap (qg a (s : Int) + (u + path q (s : Int))) = qg a (s : Int) + (u + path q (s : Int)) := by rw [IntKind.wrap_i64]; omega
          have w2s : IntKind.i64.wrap (qg a2 (s : Int) + qg (r21, r22, r23, r24) (s : Int)) = qg a2 (s : Int) + qg (r21, r22, r23, r24) (s : Int) := by rw [IntKind.wrap_i64]; omega
          have glt : decide (u + path q (s : Int) < lastT q u s) = false := decide_eq_false (by omega)
          generalize lastT q u s = lt at *
          have HZ := hide (show IntKind.i64.wrap (u + path q (s : Int)) = u + path q (s : Int) from w0s)
          generalize path q (s : Int) = pv at *
          generalize qg a (s : Int) = u1 at *
          generalize qg a2 (s : Int) = u3 at *
          generalize qg (r21, r22, r23, r24) (s : Int) = u4 at *
          generalize addS a (r11, r12, r13, r14) s = e1 at *
          generalize addS a2 (r21, r22, r23, r24) s = e2 at *
          obtain ⟨y2, _, _, hy2, _, hAA, hgw9, o1, o2, o3, o4, o5⟩ := Sl.bu_at (H9.out.bel HB.out) (show j < L.length by have := HLl.out; omega)
          cases hAA
          obtain rfl : y2 = ⟨yn, q⟩ := by rw [HLY.out] at hy2; exact (Option.some.inj hy2).symm
          simp only at o1 o2 o3 o4 o5
          have W2S := hide w2s
          have W1S := hide w1s
          clear hy2 b1 b2 b3 b4 hla hpo hc2 hc1 hs w2s w1s
          go_wp2_with fail
          refine (K.out _).mono ?_
          rintro e w9 ⟨rfl, hb⟩
          have HB9 := hide (kcall HB.out hb)
          have X1 := hide (X1.out.bel hb)
          have X2 := hide (X2.out.bel hb)
          have XE := hide (XE.out.bel hb)
          clear hb o1 o2 o3 o4 o5 hgw9 K HB
          have c1 := X1.out.cell s HC1.out
          have z1 := X1.out.thaw s
          have m1 := X1.out.lt
          have w1s := W1S.out
          have HB1 := hide (HB9.out.setCell (p := ⟨w3.heap.size, s, none⟩) (Nat.le_refl _) (.int .i64 (u1 + (u + pv))))
          have HX1s := hide (X1.out.set s (.int .i64 (u1 + (u + pv))) (HS1.out _))
          have HX2s := hide (X2.out.far ⟨w3.heap.size, s, none⟩ (.int .i64 (u1 + (u + pv))) (by show w3.heap.size + 1 ≠ w3.heap.size; omega))
          have HXEs := hide (XE.out.far ⟨w3.heap.size, s, none⟩ (.int .i64 (u1 + (u + pv))) (by show w6.heap.size ≠ w3.heap.size; have := HE6.out; omega))
          rw [← HX1.out] at HX1s
          clear HB9 X1 X2 XE
          go_wp2_with fail
          refine at_world (fun W => Blk W w3.heap.size 24 (qC (addS a (r11, r12, r13, r14) (s + 1))).toArray ∧ Blk W (w3.heap.size + 1) 24 (qC e2).toArray ∧ Blk W w6.heap.size 24 #[.int .i64 r21, .int .i64 r22, .int .i64 r23, .int .i64 r24] ∧ Below w3.heap.size w3 W) ⟨HX1s.out, HX2s.out, HXEs.out, HB1.out⟩ ?_
          clear HB1 HX1s HX2s HXEs c1 z1 m1 w1s
          rintro W ⟨x1, x2, x3, hB⟩
          have c1 := x2.cell s HC2.out
          have z1 := x2.thaw s
          have c2 := x3.cell s HCE.out
          have m1 := x2.lt
          have m2 := x3.lt
          have w2s := W2S.out
          have HX1n := hide (x1.drew.far ⟨w3.heap.size + 1, s, none⟩ (.int .i64 (u3 + u4)) (by show w3.heap.size ≠ w3.heap.size + 1; omega))
          have HX2n := hide (x2.drew.set s (.int .i64 (u3 + u4)) (HS2.out _))
          rw [← HX2.out] at HX2n
          have HXEn := hide (x3.drew.far ⟨w3.heap.size + 1, s, none⟩ (.int .i64 (u3 + u4)) (by show w6.heap.size ≠ w3.heap.size + 1; have := HE6.out; omega))
          have HBn := hide (hB.drew.setCell (p := ⟨w3.heap.size + 1, s, none⟩) (Nat.le_succ _) (.int .i64 (u3 + u4)))
          clear x1 x2 x3 hB
          refine wp_still_tail 7 (by kernel_rfl) (by kernel_rfl) ?_
          simp only [List.take_succ_cons, List.take_zero, List.drop_succ_cons, List.drop_zero]
          repeat ((with_reducible refine wpStill_step (fun K hK => ?_)); go_simp; (try go_bits); (with_reducible refine hK _ ?_); clear hK K)
          (with_reducible refine wpStill_nil ?_)
          go_wp2
          go_roundw
          case rel => exact ⟨s + 1, by omega, by go_num, by rw [HLS.out], HX1n, HX2n, HXEn, HBn⟩
          case measure => simp [nI]; omega
        · obtain rfl : s = 4 := by omega
          go_wp2
          go_roundw
          case rel => exact ⟨j + 1, _, _, by omega, by go_num, by rw [HA.out]; exact (sumQ_next HN1.out).symm, by rw [HA2.out]; exact (sumQ_next HN2.out).symm, okW_next HA0.out.1 HT1.out, okW_next HA0.out.2 HT2.out, X1, X2, HB⟩
          case measure => simp [nI]; omega
    · obtain rfl : j = b.length := by omega
      have hA := HA.out
      have hA2 := HA2.out
      rw [← HLl.out, ← duB_len L u, List.take_length, HQ.out] at hA
      rw [← duB_len b u, List.take_length, ← hA] at hA2
      subst hA2
      have d0 := X1.out.cell (v := .int .i64 a2.1) 0 rfl
      have d1 := X1.out.cell (v := .int .i64 a2.2.1) 1 rfl
      have d2 := X1.out.cell (v := .int .i64 a2.2.2.1) 2 rfl
      have d3 := X1.out.cell (v := .int .i64 a2.2.2.2) 3 rfl
      have s0 := X2.out.cell (v := .int .i64 a2.1) 0 rfl
      have s1 := X2.out.cell (v := .int .i64 a2.2.1) 1 rfl
      have s2 := X2.out.cell (v := .int .i64 a2.2.2.1) 2 rfl
      have s3 := X2.out.cell (v := .int .i64 a2.2.2.2) 3 rfl
      have m1 := X1.out.lt
      have m2 := X2.out.lt
      clear hA
      go_wp2
      go_ret
      exact ⟨rfl, kcall HB3.out HB.out⟩
set_option maxRecDepth 100000 in
set_option maxHeartbeats 4000000 in
theorem trades_no (A : Option Addr) (c : Nat) (b : List Bu) (B : Option Addr) (d : Nat) (l : List Tr) (u k : Int) (w : World) (hS : Sl buC 5 w A c b) (hT : Sl trC 7 w B d l) (hr : (fewD b l && (timeB u && timeB k)) = false) :
    Calls Try.prog 13 #[.slice A b.length c, .slice B l.length d, .int .i64 u, .int .i64 k] w fun e w' => e = .returned (.bool true) ∧ Below w.heap.size w w' := by
  have KS := hide (sane25 w)
  have KF := hide (fun W (h : Below w.heap.size w W) => few30 A B c d b l W (hS.bel h) (hT.bel h))
  have KT := hide (times31_two u k)
  generalize fewD b l = r at *
  generalize (timeB u && timeB k) = r2 at *
  clear hS hT
  have hc : r = false ∨ (r = true ∧ r2 = false) := by cases r <;> simp_all
  clear hr
  rcases hc with rfl | ⟨rfl, rfl⟩
  · go_enter Try.func13, Try.ntmps13
    go_wp2_with fail
    refine KS.out.mono ?_
    rintro e w1 ⟨rfl, hb⟩
    have HB1 := hide hb
    clear hb KS
    go_wp2_with fail
    refine (KF.out _ HB1.out).mono ?_
    rintro e w2 ⟨rfl, hb⟩
    have HB2 := hide (kcall HB1.out hb)
    clear hb KF HB1
    go_wp2
    go_ret
    exact ⟨rfl, HB2.out⟩
  · go_enter Try.func13, Try.ntmps13
    go_wp2_with fail
    refine KS.out.mono ?_
    rintro e w1 ⟨rfl, hb⟩
    have HB1 := hide hb
    clear hb KS
    go_wp2_with fail
    refine (KF.out _ HB1.out).mono ?_
    rintro e w2 ⟨rfl, hb⟩
    have HB2 := hide (kcall HB1.out hb)
    clear hb KF HB1
    go_wp2_with fail
    with_reducible refine (KT.out _ _ rfl).mono ?_
    rintro e w' ⟨rfl, rfl⟩
    go_wp2
    go_ret
    exact ⟨rfl, kalloc HB2.out _⟩
theorem deadlinesTrades_law (A : Option Addr) (c : Nat) (b : List Bu) (B : Option Addr) (d : Nat) (l : List Tr) (u k : Int) (w : World) (hS : Sl buC 5 w A c b) (hT : Sl trC 7 w B d l) (hI : ∀ x ∈ b, BuS x) (hJ : ∀ x ∈ l, TrS x) :
    Calls Try.prog 13 #[.slice A b.length c, .slice B l.length d, .int .i64 u, .int .i64 k] w fun e w' => e = .returned (.bool true) ∧ Below w.heap.size w w' := by
  rcases Bool.eq_false_or_eq_true (fewD b l && (timeB u && timeB k)) with hr | hr
  · simp only [Bool.and_eq_true] at hr
    exact trades_yes A c b B d l u k w hS hT hI hJ hr.1 hr.2.1 hr.2.2
  · exact trades_no A c b B d l u k w hS hT hr
end Go.Proofs.Ytklndmnhhakmiaa

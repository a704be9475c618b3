/-
  SpansSets: its walk: true, whatever the input.
-/
import Derived.Test.YtbfgbkblblnbhaaSRight
namespace Go.Proofs.Ytbfgbkblblnbhaa
open Go.RowKit Go.Mine Go.Mine.H Go.Mine.S

set_option maxRecDepth 100000 in
set_option maxHeartbeats 4000000 in
theorem sets_big_a (A A2 : Option Addr) (c c2 : Nat) (a b : List Sp) (t : Int) (w : World) (hSa : Sl bc 2 w A c a) (hSb : Sl bc 2 w A2 c2 b) (hl : 30 < a.length) :
    Calls Try.prog 10 #[.slice A a.length c, .slice A2 b.length c2, .int .i64 t] w fun e w' => e = .returned (.bool true) ∧ Below w.heap.size w w' := by
  have K29 := hide sane13_any
  have hla := hSa.le
  have hlb := hSb.le
  have hca := hSa.max
  have hcb := hSb.max
  have g1 : decide ((30 : Int) < a.length) = true := by simp; omega
  clear hSa hSb hl
  go_enter Try.func10, Try.ntmps10
  go_wp2_with fail
  refine (K29.out _).mono ?_
  rintro e w1 ⟨rfl, hb⟩
  go_wp2
  go_ret
  exact ⟨rfl, hb⟩
set_option maxRecDepth 100000 in
set_option maxHeartbeats 4000000 in
theorem sets_big_b (A A2 : Option Addr) (c c2 : Nat) (a b : List Sp) (t : Int) (w : World) (hSa : Sl bc 2 w A c a) (hSb : Sl bc 2 w A2 c2 b) (hl : a.length ≤ 30 ∧ 30 < b.length) :
    Calls Try.prog 10 #[.slice A a.length c, .slice A2 b.length c2, .int .i64 t] w fun e w' => e = .returned (.bool true) ∧ Below w.heap.size w w' := by
  have K29 := hide sane13_any
  have hla := hSa.le
  have hlb := hSb.le
  have hca := hSa.max
  have hcb := hSb.max
  have g1 : decide ((30 : Int) < a.length) = false := by simp; omega
  have g2 : decide ((30 : Int) < b.length) = true := by simp; omega
  clear hSa hSb hl
  go_enter Try.func10, Try.ntmps10
  go_wp2_with fail
  refine (K29.out _).mono ?_
  rintro e w1 ⟨rfl, hb⟩
  go_wp2
  go_ret
  exact ⟨rfl, hb⟩
set_option maxRecDepth 100000 in
set_option maxHeartbeats 4000000 in
theorem sets_bad (A A2 : Option Addr) (c c2 : Nat) (a b : List Sp) (t : Int) (w : World) (hSa : Sl bc 2 w A c a) (hSb : Sl bc 2 w A2 c2 b) (l1 : a.length ≤ 30) (l2 : b.length ≤ 30) (hz : errS a b ≠ 0) :
    Calls Try.prog 10 #[.slice A a.length c, .slice A2 b.length c2, .int .i64 t] w fun e w' => e = .returned (.bool true) ∧ Below w.heap.size w w' := by
  have hl : a.length + b.length ≤ 4096 := by omega
  have K29 := hide sane13_any
  have Ka := hide (fun w (hS : Sl bc 2 w A c a) => sHas_any A c a t w hS)
  have Kb := hide (fun w (hS : Sl bc 2 w A2 c2 b) => sHas_any A2 c2 b t w hS)
  have Ca := hide (fun w (hS : Sl bc 2 w A c a) => sCheck_any A c a w hS)
  have Cb := hide (fun w (hS : Sl bc 2 w A2 c2 b) => sCheck_any A2 c2 b w hS)
  have K37 := hide (fun w (hSa : Sl bc 2 w A c a) (hSb : Sl bc 2 w A2 c2 b) => s37_any A A2 c c2 a b w hSa hSb (fun _ => hl))
  have K39 := hide (fun w (hSa : Sl bc 2 w A c a) (hSb : Sl bc 2 w A2 c2 b) => s39_any A A2 c c2 a b w hSa hSb (fun _ => hl))
  have K41 := hide (fun w (hSa : Sl bc 2 w A c a) (hSb : Sl bc 2 w A2 c2 b) => s41_any A A2 c c2 a b w hSa hSb (fun _ => hl))
  have hla := hSa.le
  have hlb := hSb.le
  have hca := hSa.max
  have hcb := hSb.max
  have hB0 := Below.refl w.heap.size w
  have g1 : decide ((30 : Int) < a.length) = false := by simp; omega
  have g2 : decide ((30 : Int) < b.length) = false := by simp; omega
  have hw : chkS a = 0 ∧ chkS b = errS a b ∨ chkS a ≠ 0 := by unfold errS; split <;> simp_all
  rw [uniR_bad hz] at K37
  rw [uniR_bad hz] at K39
  rw [uniR_bad hz] at K41
  generalize errS a b = e0 at K37 K39 K41 hz hw
  generalize hasR a t = ra at Ka
  generalize hasE a t = ea at Ka
  generalize hasR b t = rb at Kb
  generalize hasE b t = eb at Kb
  clear hl l1 l2
  go_enter Try.func10, Try.ntmps10
  go_wp2_with fail
  refine (K29.out _).mono ?_
  rintro e w1 ⟨rfl, hb⟩
  have hB1 := kcall hB0 hb
  replace hSa := hSa.bel hb
  replace hSb := hSb.bel hb
  clear hb hB0
  go_wp2_with fail
  refine (Ka.out _ hSa).mono ?_
  rintro e w2 ⟨rfl, hb⟩
  have hB2 := kcall hB1 hb
  replace hSa := hSa.bel hb
  replace hSb := hSb.bel hb
  clear hb hB1
  go_wp2_with fail
  refine (Kb.out _ hSb).mono ?_
  rintro e w3 ⟨rfl, hb⟩
  have hB3 := kcall hB2 hb
  replace hSa := hSa.bel hb
  replace hSb := hSb.bel hb
  clear hb hB2
  go_wp2_with fail
  refine (K37.out _ hSa hSb).mono ?_
  rintro e w4 ⟨Au, cu, rfl, -, hb⟩
  have hB4 := kcall hB3 hb
  replace hSa := hSa.bel hb
  replace hSb := hSb.bel hb
  clear hb hB3
  go_wp2_with fail
  refine (K39.out _ hSa hSb).mono ?_
  rintro e w5 ⟨Am, cm, rfl, -, hb⟩
  have hB5 := kcall hB4 hb
  replace hSa := hSa.bel hb
  replace hSb := hSb.bel hb
  clear hb hB4
  go_wp2_with fail
  refine (K41.out _ hSa hSb).mono ?_
  rintro e w6 ⟨Ad, cd, rfl, -, hb⟩
  have hB6 := kcall hB5 hb
  replace hSa := hSa.bel hb
  replace hSb := hSb.bel hb
  clear hb hB5
  rcases hw with ⟨z1, z2⟩ | z1
  · rw [z1] at Ca
    rw [z2] at Cb
    clear z1 z2
    go_wp2_with fail
    refine (Ca.out _ hSa).mono ?_
    rintro e w7 ⟨rfl, hb⟩
    have hB7 := kcall hB6 hb
    replace hSa := hSa.bel hb
    replace hSb := hSb.bel hb
    clear hb hB6
    go_wp2_with fail
    refine (Cb.out _ hSb).mono ?_
    rintro e w8 ⟨rfl, hb⟩
    have hB8 := kcall hB7 hb
    replace hSa := hSa.bel hb
    replace hSb := hSb.bel hb
    clear hb hB7
    go_wp2
    go_ret
    exact ⟨rfl, hB8⟩
  · generalize chkS a = e1 at Ca z1
    go_wp2_with fail
    refine (Ca.out _ hSa).mono ?_
    rintro e w7 ⟨rfl, hb⟩
    have hB7 := kcall hB6 hb
    replace hSa := hSa.bel hb
    replace hSb := hSb.bel hb
    clear hb hB6
    go_wp2
    go_ret
    exact ⟨rfl, hB7⟩
set_option maxRecDepth 100000 in
set_option maxHeartbeats 4000000 in
theorem sets_ok (A A2 : Option Addr) (c c2 : Nat) (a b : List Sp) (t : Int) (w : World) (hSa : Sl bc 2 w A c a) (hSb : Sl bc 2 w A2 c2 b) (l1 : a.length ≤ 30) (l2 : b.length ≤ 30) (za : chkS a = 0) (zb : chkS b = 0) (ht : 0 ≤ t ∧ t < 1099511627776) :
    Calls Try.prog 10 #[.slice A a.length c, .slice A2 b.length c2, .int .i64 t] w fun e w' => e = .returned (.bool true) ∧ Below w.heap.size w w' := by
  have hl : a.length + b.length ≤ 4096 := by omega
  have K29 := hide sane13_any
  have Ka := hide (fun w (hS : Sl bc 2 w A c a) => sHas_any A c a t w hS)
  have Kb := hide (fun w (hS : Sl bc 2 w A2 c2 b) => sHas_any A2 c2 b t w hS)
  have Ca := hide (fun w (hS : Sl bc 2 w A c a) => sCheck_any A c a w hS)
  have Cb := hide (fun w (hS : Sl bc 2 w A2 c2 b) => sCheck_any A2 c2 b w hS)
  have K37 := hide (fun w (hSa : Sl bc 2 w A c a) (hSb : Sl bc 2 w A2 c2 b) => s37_any A A2 c c2 a b w hSa hSb (fun _ => hl))
  have K39 := hide (fun w (hSa : Sl bc 2 w A c a) (hSb : Sl bc 2 w A2 c2 b) => s39_any A A2 c c2 a b w hSa hSb (fun _ => hl))
  have K41 := hide (fun w (hSa : Sl bc 2 w A c a) (hSb : Sl bc 2 w A2 c2 b) => s41_any A A2 c c2 a b w hSa hSb (fun _ => hl))
  have hla := hSa.le
  have hlb := hSb.le
  have hca := hSa.max
  have hcb := hSb.max
  have hB0 := Below.refl w.heap.size w
  have g1 : decide ((30 : Int) < a.length) = false := by simp; omega
  have g2 : decide ((30 : Int) < b.length) = false := by simp; omega
  rw [hasE_ok za ht] at Ka
  rw [hasE_ok zb ht] at Kb
  rw [za] at Ca
  rw [zb] at Cb
  rw [hasR_ok za ht] at Ka
  rw [hasR_ok zb ht] at Kb
  rw [(uniR_is (f := fOr) za zb).1, (uniR_is (f := fOr) za zb).2] at K37
  have zu := chk_uni (f := fOr) rfl za zb hl
  have Cu := hide (fun A c w (hS : Sl bc 2 w A c (uni fOr a b)) => sCheck_any A c _ w hS)
  rw [zu] at Cu
  have Hu := hide (fun A c w (hS : Sl bc 2 w A c (uni fOr a b)) => sHas_any A c _ t w hS)
  rw [hasE_ok zu ht, hasR_ok zu ht, uni_in rfl (chkS_good za).1 (chkS_good zb).1] at Hu
  generalize uni fOr a b = u at K37 Cu Hu zu
  clear zu
  rw [(uniR_is (f := fAnd) za zb).1, (uniR_is (f := fAnd) za zb).2] at K39
  have zm := chk_uni (f := fAnd) rfl za zb hl
  have Cm := hide (fun A c w (hS : Sl bc 2 w A c (uni fAnd a b)) => sCheck_any A c _ w hS)
  rw [zm] at Cm
  have Hm := hide (fun A c w (hS : Sl bc 2 w A c (uni fAnd a b)) => sHas_any A c _ t w hS)
  rw [hasE_ok zm ht, hasR_ok zm ht, uni_in rfl (chkS_good za).1 (chkS_good zb).1] at Hm
  generalize uni fAnd a b = m at K39 Cm Hm zm
  clear zm
  rw [(uniR_is (f := fNot) za zb).1, (uniR_is (f := fNot) za zb).2] at K41
  have zd := chk_uni (f := fNot) rfl za zb hl
  have Cd := hide (fun A c w (hS : Sl bc 2 w A c (uni fNot a b)) => sCheck_any A c _ w hS)
  rw [zd] at Cd
  have Hd := hide (fun A c w (hS : Sl bc 2 w A c (uni fNot a b)) => sHas_any A c _ t w hS)
  rw [hasE_ok zd ht, hasR_ok zd ht, uni_in rfl (chkS_good za).1 (chkS_good zb).1] at Hd
  generalize uni fNot a b = d at K41 Cd Hd zd
  clear zd
  generalize inL a t = x at Ka Hu Hm Hd
  generalize inL b t = y at Kb Hu Hm Hd
  simp only [fOr] at Hu
  simp only [fAnd] at Hm
  simp only [fNot] at Hd
  clear ht
  clear hl l1 l2 za zb
  go_enter Try.func10, Try.ntmps10
  go_wp2_with fail
  refine (K29.out _).mono ?_
  rintro e w1 ⟨rfl, hb⟩
  have hB1 := kcall hB0 hb
  replace hSa := hSa.bel hb
  replace hSb := hSb.bel hb
  clear hb hB0
  go_wp2_with fail
  refine (Ka.out _ hSa).mono ?_
  rintro e w2 ⟨rfl, hb⟩
  have hB2 := kcall hB1 hb
  replace hSa := hSa.bel hb
  replace hSb := hSb.bel hb
  clear hb hB1
  go_wp2_with fail
  refine (Kb.out _ hSb).mono ?_
  rintro e w3 ⟨rfl, hb⟩
  have hB3 := kcall hB2 hb
  replace hSa := hSa.bel hb
  replace hSb := hSb.bel hb
  clear hb hB2
  go_wp2_with fail
  refine (K37.out _ hSa hSb).mono ?_
  rintro e w4 ⟨Au, cu, rfl, hu, hb⟩
  have hB4 := kcall hB3 hb
  replace hSa := hSa.bel hb
  replace hSb := hSb.bel hb
  clear hb hB3
  go_wp2_with fail
  refine (K39.out _ hSa hSb).mono ?_
  rintro e w5 ⟨Am, cm, rfl, hm, hb⟩
  have hB5 := kcall hB4 hb
  replace hSa := hSa.bel hb
  replace hSb := hSb.bel hb
  replace hu := hu.bel hb
  clear hb hB4
  go_wp2_with fail
  refine (K41.out _ hSa hSb).mono ?_
  rintro e w6 ⟨Ad, cd, rfl, hd, hb⟩
  have hB6 := kcall hB5 hb
  replace hSa := hSa.bel hb
  replace hSb := hSb.bel hb
  replace hu := hu.bel hb
  replace hm := hm.bel hb
  clear hb hB5
  go_wp2_with fail
  refine (Ca.out _ hSa).mono ?_
  rintro e w7 ⟨rfl, hb⟩
  have hB7 := kcall hB6 hb
  replace hSa := hSa.bel hb
  replace hSb := hSb.bel hb
  replace hu := hu.bel hb
  replace hm := hm.bel hb
  replace hd := hd.bel hb
  clear hb hB6
  go_wp2_with fail
  refine (Cb.out _ hSb).mono ?_
  rintro e w8 ⟨rfl, hb⟩
  have hB8 := kcall hB7 hb
  replace hSa := hSa.bel hb
  replace hSb := hSb.bel hb
  replace hu := hu.bel hb
  replace hm := hm.bel hb
  replace hd := hd.bel hb
  clear hb hB7
  go_wp2_with fail
  refine (Cu.out _ _ _ hu).mono ?_
  rintro e w9 ⟨rfl, hb⟩
  have hB9 := kcall hB8 hb
  replace hSa := hSa.bel hb
  replace hSb := hSb.bel hb
  replace hu := hu.bel hb
  replace hm := hm.bel hb
  replace hd := hd.bel hb
  clear hb hB8
  go_wp2_with fail
  refine (Cm.out _ _ _ hm).mono ?_
  rintro e w10 ⟨rfl, hb⟩
  have hB10 := kcall hB9 hb
  replace hSa := hSa.bel hb
  replace hSb := hSb.bel hb
  replace hu := hu.bel hb
  replace hm := hm.bel hb
  replace hd := hd.bel hb
  clear hb hB9
  go_wp2_with fail
  refine (Cd.out _ _ _ hd).mono ?_
  rintro e w11 ⟨rfl, hb⟩
  have hB11 := kcall hB10 hb
  replace hSa := hSa.bel hb
  replace hSb := hSb.bel hb
  replace hu := hu.bel hb
  replace hm := hm.bel hb
  replace hd := hd.bel hb
  clear hb hB10
  go_wp2_with fail
  refine (Hu.out _ _ _ hu).mono ?_
  rintro e w12 ⟨rfl, hb⟩
  have hB12 := kcall hB11 hb
  replace hSa := hSa.bel hb
  replace hSb := hSb.bel hb
  replace hu := hu.bel hb
  replace hm := hm.bel hb
  replace hd := hd.bel hb
  clear hb hB11
  go_wp2_with fail
  refine (Hm.out _ _ _ hm).mono ?_
  rintro e w13 ⟨rfl, hb⟩
  have hB13 := kcall hB12 hb
  replace hSa := hSa.bel hb
  replace hSb := hSb.bel hb
  replace hu := hu.bel hb
  replace hm := hm.bel hb
  replace hd := hd.bel hb
  clear hb hB12
  go_wp2_with fail
  refine (Hd.out _ _ _ hd).mono ?_
  rintro e w14 ⟨rfl, hb⟩
  have hB14 := kcall hB13 hb
  replace hSa := hSa.bel hb
  replace hSb := hSb.bel hb
  replace hu := hu.bel hb
  replace hm := hm.bel hb
  replace hd := hd.bel hb
  clear hb hB13
  cases x <;> cases y
  all_goals
    go_wp2
    go_ret
    exact ⟨rfl, hB14⟩
set_option maxRecDepth 100000 in
set_option maxHeartbeats 4000000 in
theorem sets_out (A A2 : Option Addr) (c c2 : Nat) (a b : List Sp) (t : Int) (w : World) (hSa : Sl bc 2 w A c a) (hSb : Sl bc 2 w A2 c2 b) (l1 : a.length ≤ 30) (l2 : b.length ≤ 30) (za : chkS a = 0) (zb : chkS b = 0) (ht : ¬ (0 ≤ t ∧ t < 1099511627776)) :
    Calls Try.prog 10 #[.slice A a.length c, .slice A2 b.length c2, .int .i64 t] w fun e w' => e = .returned (.bool true) ∧ Below w.heap.size w w' := by
  have hl : a.length + b.length ≤ 4096 := by omega
  have K29 := hide sane13_any
  have Ka := hide (fun w (hS : Sl bc 2 w A c a) => sHas_any A c a t w hS)
  have Kb := hide (fun w (hS : Sl bc 2 w A2 c2 b) => sHas_any A2 c2 b t w hS)
  have Ca := hide (fun w (hS : Sl bc 2 w A c a) => sCheck_any A c a w hS)
  have Cb := hide (fun w (hS : Sl bc 2 w A2 c2 b) => sCheck_any A2 c2 b w hS)
  have K37 := hide (fun w (hSa : Sl bc 2 w A c a) (hSb : Sl bc 2 w A2 c2 b) => s37_any A A2 c c2 a b w hSa hSb (fun _ => hl))
  have K39 := hide (fun w (hSa : Sl bc 2 w A c a) (hSb : Sl bc 2 w A2 c2 b) => s39_any A A2 c c2 a b w hSa hSb (fun _ => hl))
  have K41 := hide (fun w (hSa : Sl bc 2 w A c a) (hSb : Sl bc 2 w A2 c2 b) => s41_any A A2 c c2 a b w hSa hSb (fun _ => hl))
  have hla := hSa.le
  have hlb := hSb.le
  have hca := hSa.max
  have hcb := hSb.max
  have hB0 := Below.refl w.heap.size w
  have g1 : decide ((30 : Int) < a.length) = false := by simp; omega
  have g2 : decide ((30 : Int) < b.length) = false := by simp; omega
  rw [hasE_out za ht] at Ka
  rw [hasE_out zb ht] at Kb
  rw [za] at Ca
  rw [zb] at Cb
  rw [(uniR_is (f := fOr) za zb).1, (uniR_is (f := fOr) za zb).2] at K37
  have zu := chk_uni (f := fOr) rfl za zb hl
  have Cu := hide (fun A c w (hS : Sl bc 2 w A c (uni fOr a b)) => sCheck_any A c _ w hS)
  rw [zu] at Cu
  generalize uni fOr a b = u at K37 Cu zu
  clear zu
  rw [(uniR_is (f := fAnd) za zb).1, (uniR_is (f := fAnd) za zb).2] at K39
  have zm := chk_uni (f := fAnd) rfl za zb hl
  have Cm := hide (fun A c w (hS : Sl bc 2 w A c (uni fAnd a b)) => sCheck_any A c _ w hS)
  rw [zm] at Cm
  generalize uni fAnd a b = m at K39 Cm zm
  clear zm
  rw [(uniR_is (f := fNot) za zb).1, (uniR_is (f := fNot) za zb).2] at K41
  have zd := chk_uni (f := fNot) rfl za zb hl
  have Cd := hide (fun A c w (hS : Sl bc 2 w A c (uni fNot a b)) => sCheck_any A c _ w hS)
  rw [zd] at Cd
  generalize uni fNot a b = d at K41 Cd zd
  clear zd
  generalize hasR a t = ra at Ka
  generalize hasR b t = rb at Kb
  have hw : t < 0 ∨ ¬ t < 0 ∧ 1099511627776 ≤ t := by omega
  clear ht
  clear hl l1 l2 za zb
  go_enter Try.func10, Try.ntmps10
  go_wp2_with fail
  refine (K29.out _).mono ?_
  rintro e w1 ⟨rfl, hb⟩
  have hB1 := kcall hB0 hb
  replace hSa := hSa.bel hb
  replace hSb := hSb.bel hb
  clear hb hB0
  go_wp2_with fail
  refine (Ka.out _ hSa).mono ?_
  rintro e w2 ⟨rfl, hb⟩
  have hB2 := kcall hB1 hb
  replace hSa := hSa.bel hb
  replace hSb := hSb.bel hb
  clear hb hB1
  go_wp2_with fail
  refine (Kb.out _ hSb).mono ?_
  rintro e w3 ⟨rfl, hb⟩
  have hB3 := kcall hB2 hb
  replace hSa := hSa.bel hb
  replace hSb := hSb.bel hb
  clear hb hB2
  go_wp2_with fail
  refine (K37.out _ hSa hSb).mono ?_
  rintro e w4 ⟨Au, cu, rfl, hu, hb⟩
  have hB4 := kcall hB3 hb
  replace hSa := hSa.bel hb
  replace hSb := hSb.bel hb
  clear hb hB3
  go_wp2_with fail
  refine (K39.out _ hSa hSb).mono ?_
  rintro e w5 ⟨Am, cm, rfl, hm, hb⟩
  have hB5 := kcall hB4 hb
  replace hSa := hSa.bel hb
  replace hSb := hSb.bel hb
  replace hu := hu.bel hb
  clear hb hB4
  go_wp2_with fail
  refine (K41.out _ hSa hSb).mono ?_
  rintro e w6 ⟨Ad, cd, rfl, hd, hb⟩
  have hB6 := kcall hB5 hb
  replace hSa := hSa.bel hb
  replace hSb := hSb.bel hb
  replace hu := hu.bel hb
  replace hm := hm.bel hb
  clear hb hB5
  go_wp2_with fail
  refine (Ca.out _ hSa).mono ?_
  rintro e w7 ⟨rfl, hb⟩
  have hB7 := kcall hB6 hb
  replace hSa := hSa.bel hb
  replace hSb := hSb.bel hb
  replace hu := hu.bel hb
  replace hm := hm.bel hb
  replace hd := hd.bel hb
  clear hb hB6
  go_wp2_with fail
  refine (Cb.out _ hSb).mono ?_
  rintro e w8 ⟨rfl, hb⟩
  have hB8 := kcall hB7 hb
  replace hSa := hSa.bel hb
  replace hSb := hSb.bel hb
  replace hu := hu.bel hb
  replace hm := hm.bel hb
  replace hd := hd.bel hb
  clear hb hB7
  go_wp2_with fail
  refine (Cu.out _ _ _ hu).mono ?_
  rintro e w9 ⟨rfl, hb⟩
  have hB9 := kcall hB8 hb
  replace hSa := hSa.bel hb
  replace hSb := hSb.bel hb
  replace hu := hu.bel hb
  replace hm := hm.bel hb
  replace hd := hd.bel hb
  clear hb hB8
  go_wp2_with fail
  refine (Cm.out _ _ _ hm).mono ?_
  rintro e w10 ⟨rfl, hb⟩
  have hB10 := kcall hB9 hb
  replace hSa := hSa.bel hb
  replace hSb := hSb.bel hb
  replace hu := hu.bel hb
  replace hm := hm.bel hb
  replace hd := hd.bel hb
  clear hb hB9
  go_wp2_with fail
  refine (Cd.out _ _ _ hd).mono ?_
  rintro e w11 ⟨rfl, hb⟩
  have hB11 := kcall hB10 hb
  replace hSa := hSa.bel hb
  replace hSb := hSb.bel hb
  replace hu := hu.bel hb
  replace hm := hm.bel hb
  replace hd := hd.bel hb
  clear hb hB10
  rcases hw with h1 | ⟨h1, h2⟩
  all_goals
    go_wp2
    go_ret
    exact ⟨rfl, hB11⟩
theorem spansSets_law (A A2 : Option Addr) (c c2 : Nat) (a b : List Sp) (t : Int) (w : World) (hSa : Sl bc 2 w A c a) (hSb : Sl bc 2 w A2 c2 b) :
    Calls Try.prog 10 #[.slice A a.length c, .slice A2 b.length c2, .int .i64 t] w fun e w' => e = .returned (.bool true) ∧ Below w.heap.size w w' := by
  by_cases l1 : a.length ≤ 30
  · by_cases l2 : b.length ≤ 30
    · by_cases hz : errS a b = 0
      · obtain ⟨za, zb⟩ := errS_zero hz
        by_cases ht : 0 ≤ t ∧ t < 1099511627776
        · exact sets_ok A A2 c c2 a b t w hSa hSb l1 l2 za zb ht
        · exact sets_out A A2 c c2 a b t w hSa hSb l1 l2 za zb ht
      · exact sets_bad A A2 c c2 a b t w hSa hSb l1 l2 hz
    · exact sets_big_b A A2 c c2 a b t w hSa hSb ⟨l1, by omega⟩
  · exact sets_big_a A A2 c c2 a b t w hSa hSb (by omega)
end Go.Proofs.Ytbfgbkblblnbhaa

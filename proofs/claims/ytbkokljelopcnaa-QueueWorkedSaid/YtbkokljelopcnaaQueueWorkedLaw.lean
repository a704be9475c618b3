/-
  QueueWorked, walked.
-/
import Derived.Test.YtbkokljelopcnaaJWork
namespace Go.Proofs.Ytbkokljelopcnaa
open Go.RowKit Go.Maps Go.Mine Go.Mine.Q
attribute [local go_sem] Oper.semAt_some
set_option maxRecDepth 100000 in
set_option maxHeartbeats 8000000 in
theorem queueWorked_law (A : Option Addr) (c : Nat) (l : List Jb) (B : Option Addr) (d : Nat) (s : List Sx) (w : World) (hS : Sl jbC 5 w A c l) (hT : Sl sxC 3 w B d s) (hJ : ∀ x ∈ s, SxS x) :
    Calls Try.prog 8 #[.slice A l.length c, .slice B s.length d] w fun e w' => e = .returned (.bool true) ∧ Below w.heap.size w w' := by
  have HB0 := hide (Below.refl w.heap.size w)
  have hlc := hS.le
  have hc := hS.max
  have hld := hT.le
  have hd := hT.max
  have KS := hide (sane15 w)
  have KF := hide (fun W (h : Below w.heap.size w W) => right21 A c l W (hS.bel h))
  have K1 := hide (fun W (h : Below w.heap.size w W) => run22 A c l W (hS.bel h))
  have K3 := hide (fun (B : Option Addr) (d : Nat) (s : List Sx) W (h : Below w.heap.size w W) (hT : Sl sxC 3 W B d s) (hs : s.length ≤ 1000) (hI : ∀ x ∈ s, I64 x.no) => accepts25 A c l B d s W (hS.bel h) hT hs hI)
  have HI := hide (fun x hx => (hJ x hx).1)
  have HT := hide hT
  have HS := hide hS
  unfold RunE at K1
  clear hS hT hJ
  cases hR : rightR l
  · rw [hR] at KF
    clear hR
    go_enter Try.func8, Try.ntmps8
    go_wp2_with fail
    refine KS.out.mono ?_
    rintro e w1 ⟨rfl, hb⟩
    have HB1 := hide (kcall HB0.out hb)
    clear hb KS
    go_wp2_with fail
    refine (KF.out _ HB1.out).mono ?_
    rintro e w2 ⟨rfl, hb⟩
    have HB2 := hide (kcall HB1.out hb)
    go_wp2
    go_ret
    exact ⟨rfl, HB2.out⟩
  · rw [hR] at KF
    have hz : chk l = 0 := by unfold rightR at hR; simp at hR; exact hR.2
    obtain ⟨hr, h64, hok⟩ := right_of hz
    rw [hz] at K1
    have hrb : runB l = runOk l := by unfold runB; rw [hz]; rfl
    have HA : Hid (∀ s, accR l s = (acc l s, 0)) := hide (fun s => by unfold accR; rw [if_pos hz])
    have HOL : Hid ((runS l).length ≤ 128) := hide (by
      unfold runS
      split
      · exact plan_len h64
      · simp)
    have HON : Hid (∀ x ∈ runS l, I64 x.no) := hide (by
      unfold runS
      split
      · rename_i h; rw [hrb] at h; exact plan_nos hok h
      · simp)
    have HRS := hide (fun (h : runOk l = false) => runS_no (by rw [hrb]; exact h))
    have HR := hide hr
    have HPW := hide (okL_iff.1 hok).2
    rw [hrb] at K1
    have hmm := @run_makeMap Try.prog
    clear hR hz hr hok hrb
    go_enter Try.func8, Try.ntmps8
    go_wp2_with fail
    refine KS.out.mono ?_
    rintro e w1 ⟨rfl, hb⟩
    have HB1 := hide (kcall HB0.out hb)
    clear hb KS
    go_wp2_with fail
    refine (KF.out _ HB1.out).mono ?_
    rintro e w2 ⟨rfl, hb⟩
    have HB2 := hide (kcall HB1.out hb)
    clear hb KF
    by_cases hs : s.length ≤ 300
    · have hsi : ¬ (300 : Int) < (s.length : Int) := by omega
      have HSL := hide (show s.length ≤ 1000 by omega)
      clear hs
      go_wp2_with fail
      refine (K1.out _ HB2.out).mono ?_
      rintro e w3 ⟨A1, c1, rfl, hS1, hb⟩
      have HB3 := hide (kcall HB2.out hb)
      have HS1 := hide hS1
      clear hb K1 hS1
      obtain ⟨A5, c5, HS5, hE⟩ : ∃ (A5 : Option Addr) (c5 : Nat), Hid (Sl sxC 3 w3 A5 c5 (runS l)) ∧ ((runOk l = true ∧ A5 = A1 ∧ c5 = c1) ∨ (runOk l = false ∧ Hid (Value.slice none 0 0 = .slice A5 (runS l).length c5))) := by
        cases ho : runOk l
        · have e := HRS.out ho
          exact ⟨none, 0, hide (by rw [e]; exact Sl.nil (by decide)), .inr ⟨rfl, hide (by rw [e]; rfl)⟩⟩
        · exact ⟨A1, c1, HS1, .inl ⟨rfl, rfl, rfl⟩⟩
      rcases hE with ⟨ho, rfl, rfl⟩ | ⟨ho, HE⟩
      all_goals
        rw [ho]
        clear ho HRS
        go_wp2
        try rw [HE.out]
        obtain ⟨w4, hw4⟩ : ∃ w4, w3.alloc (.cells #[.slice B s.length d, .slice A5 (runS l).length c5] 34) = w4 := ⟨_, rfl⟩
        have X4 : Blk w4 w3.heap.size 34 #[.slice B s.length d, .slice A5 (runS l).length c5] := by rw [← hw4]; exact Blk.new _ _ _
        have hb34 : Below w3.heap.size w3 w4 := by rw [← hw4]; exact kalloc (Below.refl _ _) _
        have HB4 := hide (kcall HB3.out hb34)
        have HS4 := hide (HS5.out.bel hb34)
        have HX4 := hide X4
        rw [hw4]
        clear hw4 X4 hb34 HS5 HS1
        go_loopw [43] (fun v43 wr => ∃ (k : Nat), k ≤ 2 ∧ v43 = .int .i64 k ∧ Hid (Below w4.heap.size w4 wr)) (fun i _ => 2 - (nI i).toNat)
        case atStart => exact ⟨0, by omega, rfl, Below.refl _ _⟩
        case round =>
          obtain ⟨k, hk, rfl, HBk⟩ := hrel
          obtain ⟨wo, hwo⟩ : ∃ x, x = wr := ⟨_, rfl⟩
          subst hwo
          by_cases hlt : k < 2
          · obtain ⟨PA, pc, p, hcell, HPS, hpl, HPI⟩ : ∃ (PA : Option Addr) (pc : Nat) (p : List Sx), wo.cell? ⟨w3.heap.size, k, none⟩ = some (.slice PA p.length pc) ∧ Hid (Sl sxC 3 wo PA pc p) ∧ p.length ≤ 1000 ∧ Hid (∀ x ∈ p, I64 x.no) := by
              have hX := HX4.out.bel HBk.out
              rcases (show k = 0 ∨ k = 1 by omega) with rfl | rfl
              · exact ⟨B, d, s, hX.cell 0 rfl, hide (HT.out.bel (kcall HB4.out HBk.out)), HSL.out, HI⟩
              · exact ⟨A5, c5, runS l, hX.cell 1 rfl, hide (HS4.out.bel HBk.out), by have := HOL.out; omega, HON⟩
            have hxl := (HX4.out.bel HBk.out).lt
            have kz : (k : Int) < 2 := by omega
            have hps := HPS.out.le
            have hpm := HPS.out.max
            have KA := hide (K3.out PA pc p wo (kcall HB4.out HBk.out) HPS.out hpl HPI.out)
            rw [HA.out] at KA
            go_wp2_with fail
            refine KA.out.mono ?_
            rintro e w5 ⟨rfl, hb5⟩
            have HB5 := hide (kcall HBk.out hb5)
            have HP5 := hide (HPS.out.bel hb5)
            clear hb5 KA hcell hxl
            cases hacc : acc l p
            · clear hacc
              go_wp2
              go_roundw
              case rel => exact ⟨k + 1, by omega, by go_num, HB5⟩
              case measure => simp [nI]; omega
            · have HAC := hide hacc
              have HAG := hide (show accGo l 0 p = true by unfold acc at hacc; rw [Bool.and_eq_true] at hacc; exact hacc.1)
              have HD := hide (fun n i hi => done_bound (p := p) (fun x hx => by
                obtain ⟨i, hi⟩ := List.getElem?_of_mem hx
                obtain ⟨⟨y, h1, h2, h3, h4⟩, _⟩ := acc_at HAG.out hi
                have := rightJ_iff.1 (HR.out y (jobOf_some h1).1)
                omega) n i hi)
              have HM0 := hide (MapI.made w5 Try.prog 3)
              have HB6 := hide (kalloc HB5.out (.map #[] 0))
              have hw5 := HB5.out.size
              clear hacc
              go_wp2
              go_loopw [60] (fun v60 wr => ∃ (i : Nat), i ≤ p.length ∧ v60 = .int .i64 i ∧ Hid (MapI Try.prog 3 wr w5.heap.size i (workM p i)) ∧ Hid (Below w5.heap.size w5 wr)) (fun i _ => p.length - (nI i).toNat)
              case atStart => exact ⟨0, Nat.zero_le _, rfl, hide (by rw [workM_zero]; exact HM0.out), hide (kalloc (Below.refl _ _) _)⟩
              case round =>
                clear HM0 HB6
                obtain ⟨i, hi, rfl, HM, HBi⟩ := hrel
                by_cases hlt2 : i < p.length
                · obtain ⟨x, b, off, hx, _, rfl, hbw, q0, q1, q2⟩ := Sl.sx_at (HP5.out.bel HBi.out) hlt2
                  obtain ⟨⟨y, hy1, hy2, hy3, hy4⟩, hprev⟩ := acc_at HAG.out hx
                  have hyr := rightJ_iff.1 (HR.out y (jobOf_some hy1).1)
                  have hdn := HD.out x.no i hi
                  have iz : (i : Int) < (p.length : Int) := by omega
                  obtain ⟨w7, hw7⟩ : ∃ w7, wr.alloc (.cells #[.int .i64 x.no, .int .i64 x.f, .int .i64 x.u] 41) = w7 := ⟨_, rfl⟩
                  have X7 : Blk w7 wr.heap.size 41 #[.int .i64 x.no, .int .i64 x.f, .int .i64 x.u] := by rw [← hw7]; exact Blk.new _ _ _
                  have hb7 : Below wr.heap.size wr w7 := by rw [← hw7]; exact kalloc (Below.refl _ _) _
                  have M8 := hide (HM.out.bel hb7).drew
                  have hxI := HPI.out x (List.mem_of_getElem? hx)
                  have hlk := M8.out.look Try.underlying3 Try.underlying37 (Try.zeroValue3 _) hxI
                  rw [workM_get] at hlk
                  have HBd := hide (kcall HBi.out hb7).drew
                  have n0 := X7.cell (v := .int .i64 x.no) 0 rfl
                  have n1 := X7.cell (v := .int .i64 x.f) 1 rfl
                  have n2 := X7.cell (v := .int .i64 x.u) 2 rfl
                  have nl := X7.lt
                  have hin : (i : Int) * 1099511627776 ≤ 1099511627776000 := by omega
                  have hwa : IntKind.i64.wrap (x.u - x.f) = x.u - x.f := by rw [IntKind.wrap_i64]; omega
                  have hwb : IntKind.i64.wrap (doneN x.no (p.take i) + (x.u - x.f)) = doneN x.no (p.take i) + (x.u - x.f) := by rw [IntKind.wrap_i64]; omega
                  have g1 : decide (x.u ≤ x.f) = false := decide_eq_false (by omega)
                  have HNX := hide (workM_next hx)
                  have hci : (decide (0 < i) = false) ∨ (decide (0 < i) = true ∧ ∃ j : Nat, IntKind.i64.wrap ((i : Int) - 1) = (j : Int) ∧ (j : Int) < (p.length : Int) ∧ ∃ z : Sx, w7.cell? ⟨b, off + j * 3 + 2, none⟩ = some (.int .i64 z.u) ∧ decide (x.f < z.u) = false) := by
                    rcases Nat.eq_zero_or_pos i with h0 | h0
                    · left; exact decide_eq_false (by omega)
                    · right
                      refine ⟨decide_eq_true h0, i - 1, by rw [IntKind.wrap_i64]; omega, by omega, ?_⟩
                      obtain ⟨z, b', off', hz, _, e', _, _, _, z2⟩ := Sl.sx_at (HP5.out.bel (kcall HBi.out hb7)) (k := i - 1) (by omega)
                      cases e'
                      exact ⟨z, z2, decide_eq_false (by have := hprev (i - 1) z (by omega) hz; omega)⟩
                  have hbw7 : b < w7.heap.size := by have := hb7.size; omega
                  clear hx hy1 hy2 hy3 hy4 hprev hyr hb7 X7 hdn hin
                  rcases hci with g0 | ⟨g0, j, hj1, hj2, z, z2, g3⟩
                  all_goals
                    go_wp2_with fail
                    refine wp_still_all (by kernel_rfl) (by kernel_rfl) ?_
                    repeat (first | ((with_reducible refine wpStill_step (fun K hK => ?_)); go_simp; (try go_bits); (with_reducible refine hK _ ?_); clear hK K) | ((with_reducible refine wpStill_step (fun K hK => ?_)); go_simp; rw [if_neg (by simp [undef])]; (with_reducible refine hK _ ?_); clear hK K))
                    (with_reducible refine wpStill_nil ?_)
                    go_wp2_with fail
                    obtain ⟨w9, e9, M9, g9⟩ := M8.out.put Try.underlying3 Try.underlying37 (by unfold maxLen; omega) hxI (.int .i64 (doneN x.no (p.take i) + (x.u - x.f)))
                    rw [e9]
                    rw [HNX.out] at M9
                    have HM9 := hide M9
                    have HB9 : Hid (Below w5.heap.size w5 w9) := hide (Below.grown HBd.out g9 HBd.out.size (fun g hg => by have := Option.some.inj hg; omega))
                    clear M9 g9 e9 HNX HM HBi M8 HBd hlk n0 n1 n2 nl
                    go_wp2
                    go_roundw
                    case rel => exact ⟨i + 1, by omega, by go_num, HM9, HB9⟩
                    case measure => simp [nI]; omega
                · obtain rfl : i = p.length := by omega
                  have HM2 : Hid (MapI Try.prog 3 wr w5.heap.size p.length (dmM l 0 (workM p p.length))) := hide (by rw [dmM_zero]; exact HM.out)
                  clear HM
                  go_wp2
                  go_loopw [98] (fun v98 wr => ∃ (k2 : Nat), k2 ≤ l.length ∧ v98 = .int .i64 k2 ∧ Hid (MapI Try.prog 3 wr w5.heap.size p.length (dmM l k2 (workM p p.length))) ∧ Hid (Below w5.heap.size w5 wr)) (fun i _ => l.length - (nI i).toNat)
                  case atStart => exact ⟨0, Nat.zero_le _, rfl, HM2, HBi⟩
                  case round =>
                    clear HM2 HBi
                    obtain ⟨k2, hk2, rfl, HM, HBi⟩ := hrel
                    by_cases hlt3 : k2 < l.length
                    · obtain ⟨y, b, off, hy, _, rfl, hbw, d0, d1, d2, d3, d4⟩ := Sl.jb_at (HS.out.bel (kcall HB4.out (kcall HB5.out HBi.out))) hlt3
                      have hym := List.mem_of_getElem? hy
                      have hyr := rightJ_iff.1 (HR.out y hym)
                      have kz2 : (k2 : Int) < (l.length : Int) := by omega
                      obtain ⟨w7, hw7⟩ : ∃ w7, wr.alloc (.cells #[.int .i64 y.no, .int .i64 y.ready, .int .i64 y.due, .int .i64 y.need, .bool y.alt] 39) = w7 := ⟨_, rfl⟩
                      have X7 : Blk w7 wr.heap.size 39 #[.int .i64 y.no, .int .i64 y.ready, .int .i64 y.due, .int .i64 y.need, .bool y.alt] := by rw [← hw7]; exact Blk.new _ _ _
                      have hb7 : Below wr.heap.size wr w7 := by rw [← hw7]; exact kalloc (Below.refl _ _) _
                      have M7 := HM.out.bel hb7
                      have hyI : I64 y.no := by unfold I64; omega
                      have hlk := M7.look Try.underlying3 Try.underlying37 (Try.zeroValue3 _) hyI
                      rw [dmM_at HPW.out hy, workM_get, List.take_length, acc_work HAC.out y hym] at hlk
                      have HNX := hide (dmM_next hy (workM p p.length))
                      have HB7 := hide (kcall HBi.out hb7)
                      have n0 := X7.cell (v := .int .i64 y.no) 0 rfl
                      have n3 := X7.cell (v := .int .i64 y.need) 3 rfl
                      have nl := X7.lt
                      have hwr := HBi.out.size
                      have HX7 := hide X7
                      have HYM := hide hym
                      have HY := hide hy
                      clear hy hb7 X7 hym
                      go_wp2_with (at_delete; refine wpList_del rfl (.tmp 109) (.tmp 111) 37 rfl Try.underlying3 Try.underlying37 rfl M7 rfl hyI ?_; intro w8 M8 g8)
                      rw [HNX.out] at M8
                      have HB8 : Hid (Below w5.heap.size w5 w8) := hide (Below.grown HB7.out g8 HB7.out.size (fun g hg => by have := Option.some.inj hg; omega))
                      have HM8 := hide M8
                      have HX8 := hide (HX7.out.grown g8 (by have := HM.out.lt; simp; omega))
                      clear M7 M8 g8 HM HBi HNX HX7 HB7 hlk n0 n3 nl
                      go_wp2
                      go_loopw [114] (fun v114 wr => ∃ (q : Nat), q ≤ p.length ∧ v114 = .int .i64 q ∧ Hid (Below w8.heap.size w8 wr)) (fun i _ => p.length - (nI i).toNat)
                      case atStart => exact ⟨0, Nat.zero_le _, rfl, Below.refl _ _⟩
                      case round =>
                        obtain ⟨q, hq, rfl, HBq⟩ := hrel
                        by_cases hlt4 : q < p.length
                        · obtain ⟨x, b2, off2, hx, _, rfl, hbw2, q0, q1, q2⟩ := Sl.sx_at (HP5.out.bel (kcall HB8.out HBq.out)) hlt4
                          have qz : (q : Int) < (p.length : Int) := by omega
                          have hXq := HX8.out.bel HBq.out
                          have m0 := hXq.cell (v := .int .i64 y.no) 0 rfl
                          have m1 := hXq.cell (v := .int .i64 y.ready) 1 rfl
                          have m2 := hXq.cell (v := .int .i64 y.due) 2 rfl
                          have ml := hXq.lt
                          have hb9 := hide (kalloc HBq.out (.cells #[.int .i64 x.no, .int .i64 x.f, .int .i64 x.u] 41))
                          obtain ⟨⟨y', hy1, hy2, hy3, hy4⟩, _⟩ := acc_at HAG.out hx
                          have hcs : (x.no == y.no) = false ∨ ((x.no == y.no) = true ∧ decide (x.f < y.ready) = false ∧ decide (y.due < x.u) = false) := by
                            by_cases e : x.no = y.no
                            · right
                              rw [e, jobOf_mem HPW.out HYM.out] at hy1
                              obtain rfl := Option.some.inj hy1
                              exact ⟨by simpa using e, decide_eq_false (by omega), decide_eq_false (by omega)⟩
                            · left; simpa using e
                          clear hx hy1 hy2 hy3 hy4 hXq
                          rcases hcs with e1 | ⟨e1, e2, e3⟩
                          all_goals
                            go_wp2
                            go_roundw
                            case rel => exact ⟨q + 1, by omega, by go_num, hb9⟩
                            case measure => simp [nI]; omega
                        · have HM9 := hide (HM8.out.bel HBq.out)
                          have HB9 := hide (kcall HB8.out HBq.out)
                          go_wp2
                          go_roundw
                          case rel => exact ⟨k2 + 1, by omega, by go_num, HM9, HB9⟩
                          case measure => simp [nI]; omega
                    · obtain rfl : k2 = l.length := by omega
                      have HB9 := hide (kcall HB5.out HBi.out)
                      go_wp2_with (at_len; refine wpList_len0 rfl (.tmp 139) 37 rfl Try.underlying3 Try.underlying37 rfl HM.out (dmM_all (workM_job HAG.out)) ?_)
                      go_roundw
                      case rel => exact ⟨k + 1, by omega, by go_num, HB9⟩
                      case measure => simp [nI]; omega
          · go_wp2
            go_ret
            exact ⟨rfl, kcall HB4.out HBk.out⟩
    · have hsi : (300 : Int) < (s.length : Int) := by omega
      go_wp2
      go_ret
      exact ⟨rfl, HB2.out⟩
end Go.Proofs.Ytbkokljelopcnaa

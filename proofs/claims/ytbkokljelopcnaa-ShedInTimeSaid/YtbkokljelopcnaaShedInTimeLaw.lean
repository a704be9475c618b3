/-
  ShedInTime, walked.
-/
import Derived.Test.YtbkokljelopcnaaHM7
import Derived.Test.YtbkokljelopcnaaQueueEitherLaw
namespace Go.Proofs.Ytbkokljelopcnaa
open Go.RowKit Go.Mine Go.Mine.Q
attribute [local go_sem] Oper.semAt_some
def inP (m : List Jb) (i : Nat) : Bool := (m.take i).all fun x => decide (dueN m x.due ≤ x.due)
theorem inP_next {m : List Jb} {i : Nat} {x : Jb} (hx : m[i]? = some x) : inP m (i + 1) = (inP m i && decide (dueN m x.due ≤ x.due)) := by
  unfold inP; rw [take_of_get hx, List.all_append]; simp
theorem inP_all (m : List Jb) : inP m m.length = inTime m := by unfold inP; rw [List.take_length]; rfl
theorem dueN_next {m : List Jb} {k : Nat} {y : Jb} (hy : m[k]? = some y) (D : Int) : dueN (m.take (k + 1)) D = dueN (m.take k) D + (if y.due ≤ D then y.need else 0) := by
  unfold dueN; rw [take_of_get hy, sumF_append]; simp [sumF]
theorem dueN_bound (D : Int) : ∀ {m : List Jb}, (∀ y ∈ m, 0 ≤ y.need ∧ y.need ≤ 1048576) → 0 ≤ dueN m D ∧ dueN m D ≤ (m.length : Int) * 1048576
  | [], _ => by simp [dueN, sumF]
  | x :: m, h => by
    have h1 := dueN_bound D (m := m) (fun y hy => h y (List.mem_cons_of_mem _ hy))
    have h2 := h x (by simp)
    unfold dueN at *
    simp only [sumF, List.length_cons]
    split <;> omega
set_option maxRecDepth 100000 in
set_option maxHeartbeats 8000000 in
theorem shedInTime_law (A : Option Addr) (c : Nat) (l : List Jb) (B : Option Addr) (d : Nat) (o : List Int) (w : World) (hS : Sl jbC 5 w A c l) (hT : Sl ic 1 w B d o) :
    Calls Try.prog 14 #[.slice A l.length c, .slice B o.length d] w fun e w' => e = .returned (.bool true) ∧ Below w.heap.size w w' := by
  have hld := hT.le
  have hd := hT.max
  have KS := hide (sane29 w)
  have KF := hide (fun W (h : Below w.heap.size w W) => few30 A c l W (hS.bel h))
  have K1 := hide (fun (hk : o.length ≤ 100000) W (h : Below w.heap.size w W) => fits34 A c l B d o W (hS.bel h) (hT.bel h) hk)
  have K2 := hide (fun (hk : o.length ≤ 100000) (hz : Q.chk l = 0) W (h : Below w.heap.size w W) => kept38 A c l B d o W (hS.bel h) (hT.bel h) hz hk)
  unfold KeptE at K2
  have HZ : errH l ≠ 0 ∨ (errH l = 0 ∧ Wt l) := by
    by_cases h : errH l = 0
    · exact .inr ⟨h, Wt.of h⟩
    · exact .inl h
  clear hS hT
  generalize hR : fewH l = r at *
  clear hR
  cases r
  · go_enter Try.func14, Try.ntmps14
    go_wp2_with fail
    refine KS.out.mono ?_
    rintro e w1 ⟨rfl, hb⟩
    have HB1 := hide hb
    clear hb KS
    go_wp2_with fail
    refine (KF.out _ HB1.out).mono ?_
    rintro e w' ⟨rfl, rfl⟩
    go_wp2
    go_ret
    exact ⟨rfl, HB1.out⟩
  by_cases hk : o.length ≤ 30
  rotate_left
  · have hki : (30 : Int) < (o.length : Int) := by omega
    go_enter Try.func14, Try.ntmps14
    go_wp2_with fail
    refine KS.out.mono ?_
    rintro e w1 ⟨rfl, hb⟩
    have HB1 := hide hb
    clear hb KS
    go_wp2_with fail
    refine (KF.out _ HB1.out).mono ?_
    rintro e w' ⟨rfl, rfl⟩
    go_wp2
    go_ret
    exact ⟨rfl, HB1.out⟩
  have hki : ¬ (30 : Int) < (o.length : Int) := by omega
  have hk5 : o.length ≤ 100000 := by omega
  clear hk
  have K1 := hide (K1.out hk5)
  rcases HZ with hz | ⟨hz, hw⟩
  · have e1 : fitsR l o = (false, errH l) := by unfold fitsR; rw [if_neg hz]
    rw [e1] at K1
    have gz : (errH l == 0) = false := by simpa using hz
    have gz2 : (errH l != 0) = true := by simpa using hz
    generalize errH l = z at *
    clear K2 e1
    go_enter Try.func14, Try.ntmps14
    go_wp2_with fail
    refine KS.out.mono ?_
    rintro e w1 ⟨rfl, hb⟩
    have HB1 := hide hb
    clear hb KS
    go_wp2_with fail
    refine (KF.out _ HB1.out).mono ?_
    rintro e w' ⟨rfl, rfl⟩
    go_wp2_with fail
    refine (K1.out _ HB1.out).mono ?_
    rintro e w2 ⟨rfl, hb⟩
    have HB2 := hide (kcall HB1.out hb)
    clear hb K1
    go_wp2
    go_ret
    exact ⟨ret_bool (by simp), HB2.out⟩
  have e1 : fitsR l o = (fitsB l o, 0) := by unfold fitsR; rw [if_pos hz]
  have hch := hw.chk
  have K2 := hide (K2.out hk5 hch)
  rw [e1, fitsB_is] at K1
  clear e1 hch hz
  cases hko : keptGo l (-1) o with
  | none =>
    rw [hko] at K1 K2
    clear hko hw
    go_enter Try.func14, Try.ntmps14
    go_wp2_with fail
    refine KS.out.mono ?_
    rintro e w1 ⟨rfl, hb⟩
    have HB1 := hide hb
    clear hb KS
    go_wp2_with fail
    refine (KF.out _ HB1.out).mono ?_
    rintro e w' ⟨rfl, rfl⟩
    go_wp2_with fail
    refine (K1.out _ HB1.out).mono ?_
    rintro e w2 ⟨rfl, hb⟩
    have HB2 := hide (kcall HB1.out hb)
    clear hb K1
    go_wp2_with fail
    refine (K2.out _ HB2.out).mono ?_
    rintro e w3 ⟨A3, c3, rfl, hS3, hb⟩
    have HB3 := hide (kcall HB2.out hb)
    clear hb K2 hS3
    simp only [inT, Option.isSome]
    go_wp2
    go_ret
    exact ⟨rfl, HB3.out⟩
  | some m =>
    obtain ⟨hsub, _⟩ := kept_sub hw.inc hko
    have hm := hw.sub hsub
    rw [hko] at K1 K2
    simp only [Option.getD_some, Option.isSome_some] at K2
    simp only [inT] at K1
    have hml := hm.len
    have HRT := hide hm.right
    have HAC := hide (acc_part hm)
    have HCM := hide hm.chk
    obtain ⟨hr, h64, hok⟩ := right_of hm.chk
    have hro : runOk m = inTime m := runOk_wait hm.ok hm.wait
    have HRB : Hid (runB m = inTime m) := hide hm.runB
    have HDN : Hid ((denyQ m).isSome = !inTime m) := hide (by rw [show denyQ m = denyR m by unfold denyQ; rw [if_pos hm.chk], denyR_is, ← hro, ok_not_denied hok]; simp)
    have HAR : Hid (accR m (runS m) = (inTime m || m.isEmpty, 0)) := hide (by unfold accR; rw [if_pos hm.chk, HAC.out])
    have HOL : Hid ((runS m).length ≤ 1000) := hide (by
      unfold runS
      split
      · have := plan_len h64; omega
      · simp)
    have HON : Hid (∀ x ∈ runS m, I64 x.no) := hide (by
      unfold runS
      split
      · rename_i h; rw [HRB.out, ← hro] at h; exact plan_nos hok h
      · simp)
    have HDB := hide (fun D k => dueN_bound D (m := m.take k) (fun y hy => by have := rightJ_iff.1 (HRT.out y (List.mem_of_mem_take hy)); omega))
    clear hko hw hsub hm hr h64 hok hro HAC
    go_enter Try.func14, Try.ntmps14
    go_wp2_with fail
    refine KS.out.mono ?_
    rintro e w1 ⟨rfl, hb⟩
    have HB1 := hide hb
    clear hb KS
    go_wp2_with fail
    refine (KF.out _ HB1.out).mono ?_
    rintro e w' ⟨rfl, rfl⟩
    go_wp2_with fail
    refine (K1.out _ HB1.out).mono ?_
    rintro e w2 ⟨rfl, hb⟩
    have HB2 := hide (kcall HB1.out hb)
    clear hb K1
    go_wp2_with fail
    refine (K2.out _ HB2.out).mono ?_
    rintro e w3 ⟨A3, c3, rfl, hS3, hb⟩
    have HB3 := hide (kcall HB2.out hb)
    have HS3 := hide hS3
    have h3c := hS3.le
    have h3m := hS3.max
    clear hb K2 hS3
    go_wp2
    go_loopw [9, 10] (fun v9 v10 wr => ∃ (i : Nat), i ≤ m.length ∧ v10 = .int .i64 i ∧ v9 = .bool (inP m i) ∧ Hid (Below w3.heap.size w3 wr)) (fun _ i _ => m.length - (nI i).toNat)
    case atStart => exact ⟨0, Nat.zero_le _, rfl, rfl, Below.refl _ _⟩
    case round =>
      obtain ⟨i, hi, rfl, rfl, HBi⟩ := hrel
      obtain ⟨wo, hwo⟩ : ∃ x, x = wr := ⟨_, rfl⟩
      subst hwo
      by_cases hlt : i < m.length
      · obtain ⟨x, b, off, hx, _, rfl, hbw, d0, d1, d2, d3, d4⟩ := Sl.jb_at (HS3.out.bel HBi.out) hlt
        have iz : (i : Int) < (m.length : Int) := by omega
        have HX := hide (inP_next hx)
        have HXi := hide hx
        clear d0 d1 d2 d3 d4 hx
        go_wp2
        go_loopw [11, 12] (fun v11 v12 wr => ∃ (k : Nat), k ≤ m.length ∧ v12 = .int .i64 k ∧ v11 = .int .i64 (dueN (m.take k) x.due) ∧ Hid (Below wo.heap.size wo wr)) (fun _ i _ => m.length - (nI i).toNat)
        case atStart => exact ⟨0, Nat.zero_le _, rfl, rfl, Below.refl _ _⟩
        case round =>
          obtain ⟨k, hk, rfl, rfl, HBk⟩ := hrel
          have HSk := hide (HS3.out.bel (kcall HBi.out HBk.out))
          obtain ⟨x', b', off', hx', _, e', hbw', _, _, d2, _, _⟩ := Sl.jb_at HSk.out hlt
          cases e'
          obtain rfl := Option.some.inj (hx'.symm.trans HXi.out)
          by_cases hlt2 : k < m.length
          · obtain ⟨y, b', off', hy, _, e', _, _, _, y2, y3, _⟩ := Sl.jb_at HSk.out hlt2
            cases e'
            have kz : (k : Int) < (m.length : Int) := by omega
            have hyr := rightJ_iff.1 (HRT.out y (List.mem_of_getElem? hy))
            have hnx := dueN_next hy x'.due
            have hbd := HDB.out x'.due k
            have hlk : (m.take k).length = k := by rw [List.length_take]; omega
            rw [hlk] at hbd
            have hw1 : IntKind.i64.wrap (dueN (m.take k) x'.due + y.need) = dueN (m.take k) x'.due + y.need := by rw [IntKind.wrap_i64]; omega
            have HBd := hide HBk.out.drew
            generalize dueN (m.take k) x'.due = S at *
            clear hx' hy hyr hbd hlk HSk
            by_cases hc : y.due ≤ x'.due
            · have g : decide (y.due ≤ x'.due) = true := decide_eq_true hc
              rw [if_pos hc] at hnx
              have HNX := hide hnx
              clear hnx hc
              go_wp2_with fail
              refine wp_still_all (by kernel_rfl) (by kernel_rfl) ?_
              repeat ((with_reducible refine wpStill_step (fun K hK => ?_)); go_simp; (try go_bits); (with_reducible refine hK _ ?_); clear hK K)
              (with_reducible refine wpStill_nil ?_)
              go_wp2
              go_roundw
              case rel => exact ⟨k + 1, by omega, by go_num, by rw [HNX.out], HBd⟩
              case measure => simp [nI]; omega
            · have g : decide (y.due ≤ x'.due) = false := decide_eq_false hc
              rw [if_neg hc, Int.add_zero] at hnx
              have HNX := hide hnx
              clear hnx hc
              go_wp2_with fail
              refine wp_still_all (by kernel_rfl) (by kernel_rfl) ?_
              repeat ((with_reducible refine wpStill_step (fun K hK => ?_)); go_simp; (try go_bits); (with_reducible refine hK _ ?_); clear hK K)
              (with_reducible refine wpStill_nil ?_)
              go_wp2
              go_roundw
              case rel => exact ⟨k + 1, by omega, by go_num, by rw [HNX.out], HBd⟩
              case measure => simp [nI]; omega
          · obtain rfl : k = m.length := by omega
            rw [List.take_length]
            have HBo := hide (kcall HBi.out HBk.out)
            clear hx' HSk
            cases hin : inP m i
            · go_wp2
              go_roundw
              case rel => exact ⟨i + 1, by omega, by go_num, by rw [HX.out, hin]; rfl, HBo⟩
              case measure => simp [nI]; omega
            · go_wp2
              go_roundw
              case rel => exact ⟨i + 1, by omega, by go_num, by rw [HX.out, hin]; simp, HBo⟩
              case measure => simp [nI]; omega
      · obtain rfl : i = m.length := by omega
        rw [inP_all]
        have KR := hide (run22 A3 c3 m wo (HS3.out.bel HBi.out))
        unfold RunE at KR
        rw [HRB.out, HCM.out] at KR
        have KD := hide (fun W (h : Below wo.heap.size wo W) => deny17 A3 c3 m W (HS3.out.bel (kcall HBi.out h)))
        unfold DenyE at KD
        rw [HDN.out, HCM.out] at KD
        have KA := hide (fun A c W (h : Below wo.heap.size wo W) hT => accepts25 A3 c3 m A c (runS m) W (HS3.out.bel (kcall HBi.out h)) hT HOL.out HON.out)
        rw [HAR.out] at KA
        have HBo := hide (kcall HB3.out HBi.out)
        have hgl : (inTime m = true ∧ True) ∨ (inTime m = false ∧ (m.length == 0) = false ∧ m.isEmpty = false ∧ m ≠ []) := by
          cases m with
          | nil => exact .inl ⟨rfl, trivial⟩
          | cons x m => cases inTime (x :: m) <;> simp
        clear HOL HON HAR HDN HRB HCM HDB HRT HS3 HBi
        generalize qA (denyQ m) = qa at *
        generalize qB (denyQ m) = qb at *
        generalize runS m = s at *
        rcases hgl with ⟨hin, gn⟩ | ⟨hin, gl, ge, gn⟩
        all_goals
          rw [hin] at KR KD KA
          try rw [ge] at KA
          rw [hin]
          clear hin
          go_wp2_with fail
          refine KR.out.mono ?_
          rintro e w5 ⟨A5, c5, rfl, hS5, hb⟩
          have HB5 := hide hb
          have HS5 := hide hS5
          have h5c := hS5.le
          have h5m := hS5.max
          clear hb hS5 KR
          go_wp2_with fail
          refine (KD.out _ HB5.out).mono ?_
          rintro e w6 ⟨rfl, hb⟩
          obtain ⟨w7, hw7⟩ : ∃ w7, w6.alloc (.cells #[.int .i64 qa, .int .i64 qb] 24) = w7 := ⟨_, rfl⟩
          have HS7 : Hid (Sl sxC 3 w7 A5 c5 s) := hide (by rw [← hw7]; exact (HS5.out.bel hb).alloc _)
          have HB7 : Hid (Below wo.heap.size wo w7) := hide (by rw [← hw7]; exact kalloc (kcall HB5.out hb) _)
          clear hb KD HB5 HS5
          simp only [Bool.not_true, Bool.not_false, Bool.or_false, Bool.true_or]
          simp only [Bool.true_or, Bool.or_false] at KA
          go_wp2_with fail
          refine (KA.out _ _ _ HB7.out HS7.out).mono ?_
          rintro e w8 ⟨rfl, hb⟩
          have HB8 := hide (kcall HBo.out (kcall HB7.out hb))
          clear hb KA
          go_wp2
          go_ret
          exact ⟨ret_bool (by simp [gn]), HB8.out⟩
end Go.Proofs.Ytbkokljelopcnaa

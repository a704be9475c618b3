/-
  done44: work can be done, or a span denies it.
-/
import Derived.Test.YtnngemgfochodaaGreatTM14
import Derived.Test.YtnngemgfochodaaGreatTM12
import Derived.Test.YtnngemgfochodaaGreatTM13
import Derived.Test.YtnngemgfochodaaGreatXTop
import Derived.Test.YtnngemgfochodaaGreatPush2
namespace Go.Proofs.YtnngemgfochodaaGreat.J
open Go.Proofs.YtnngemgfochodaaGreat
open Go.RowKit Go.Mine Go.Mine.Q
attribute [local go_sem] Oper.semAt_some
theorem jb_ones (l : List Jb) : ∀ x ∈ l, ∀ u ∈ jbC x, u.oneCell' = true := by
  intro x _ u hu; simp [jbC] at hu; rcases hu with rfl | rfl | rfl | rfl | rfl <;> rfl
theorem accGo_nos {l : List Jb} : ∀ {s : List Sx} {last : Int}, accGo l last s = true → ∀ x ∈ s, ∃ y ∈ l, y.no = x.no
  | [], _, _, x, hx => by simp at hx
  | x :: s, last, h, z, hz => by
    obtain ⟨⟨y, h1, _⟩, h2⟩ := accGo_cons.1 h
    rcases List.mem_cons.1 hz with rfl | hz
    · exact ⟨y, (jobOf_some h1).1, (jobOf_some h1).2⟩
    · exact accGo_nos h2 z hz
theorem plan_nos {l : List Jb} (h : okL l = true) (ho : runOk l = true) : ∀ x ∈ plan l, I64 x.no := by
  intro x hx
  have h1 := plan_acc h ho
  unfold acc at h1
  rw [Bool.and_eq_true] at h1
  obtain ⟨y, hy, e⟩ := accGo_nos h1.1 x hx
  have := rightJ_iff.1 ((okL_iff.1 h).1 y hy)
  unfold I64; omega
theorem plan_len {l : List Jb} (h64 : l.length ≤ 64) : (plan l).length ≤ 128 := by
  rw [← soFar_all]; exact soFar_len l _ h64
theorem inQ_next {a : Int} {m : List Jb} {i : Nat} {x : Jb} (hx : m[i]? = some x) : inQ a m (i + 1) = (inQ a m i && decide (dueN m x.due ≤ x.due - a)) := by
  unfold inQ; rw [take_of_get hx, List.all_append]; simp
theorem dueN_next {m : List Jb} {k : Nat} {y : Jb} (hy : m[k]? = some y) (D : Int) : dueN (m.take (k + 1)) D = dueN (m.take k) D + (if y.due ≤ D then y.need else 0) := by
  unfold dueN; rw [take_of_get hy, sumF_append]; simp [sumF]
theorem dueN_bound (D : Int) : ∀ {m : List Jb}, (∀ y ∈ m, 0 ≤ y.need ∧ y.need ≤ 1048576) → 0 ≤ dueN m D ∧ dueN m D ≤ (m.length : Int) * 1048576
  | [], _ => by simp [dueN, sumF]
  | x :: m, h => by
    have h1 := dueN_bound D (m := m) (fun y hy => h y (List.mem_cons_of_mem _ hy))
    have h2 := h x (by simp)
    unfold dueN at *
    simp only [sumF, List.length_cons]
    split <;> omega
theorem useJ_cases (t n : Int) : (useJ t n = false ∧ decide (t < 1) = true) ∨ (useJ t n = false ∧ decide (t < 1) = false ∧ decide (n < 1) = true) ∨ (useJ t n = false ∧ decide (t < 1) = false ∧ decide (n < 1) = false ∧ decide (1048576 < n) = true) ∨ (useJ t n = true ∧ decide (t < 1) = false ∧ decide (n < 1) = false ∧ decide (1048576 < n) = false) := by
  unfold useJ
  by_cases h1 : t < 1
  · exact .inl ⟨by rw [decide_eq_false (by omega)]; rfl, decide_eq_true h1⟩
  · by_cases h2 : n < 1
    · exact .inr (.inl ⟨by rw [decide_eq_true (show 1 ≤ t by omega), decide_eq_false (show ¬ 1 ≤ n by omega)]; rfl, decide_eq_false h1, decide_eq_true h2⟩)
    · by_cases h3 : 1048576 < n
      · exact .inr (.inr (.inl ⟨by rw [decide_eq_true (show 1 ≤ t by omega), decide_eq_true (show 1 ≤ n by omega), decide_eq_false (show ¬ n ≤ 1048576 by omega)]; rfl, decide_eq_false h1, decide_eq_false h2, decide_eq_true h3⟩))
      · exact .inr (.inr (.inr ⟨by rw [decide_eq_true (show 1 ≤ t by omega), decide_eq_true (show 1 ≤ n by omega), decide_eq_true (show n ≤ 1048576 by omega)]; rfl, decide_eq_false h1, decide_eq_false h2, decide_eq_false h3⟩))
theorem Try_infoJ : (Tryz.prog.info? 71).map (fun i => (i.zero, i.size, i.bytes)) = some (some (.agg #[.int .i64 0, .int .i64 0, .int .i64 0, .int .i64 0, .bool false]), 5, 40) := by kernel_rfl
set_option maxRecDepth 100000 in
set_option maxHeartbeats 8000000 in
theorem done12 (a : Int) (A : Option Addr) (c : Nat) (T : List Int) (B : Option Addr) (d : Nat) (N : List Int) (w : World) (hS : Sl ic 1 w A c T) (hT : Sl ic 1 w B d N) (ha : 0 ≤ a ∧ a < 549755813888) (hTb : ∀ t ∈ T, 0 ≤ t ∧ t ≤ 1073741824) (hl : T.length ≤ 6) (hNl : N.length = T.length) :
    Calls Tryz.prog 12 #[.int .i64 a, .slice A T.length c, .slice B N.length d] w fun e w' => e = .returned (.bool true) ∧ Below w.heap.size w w' := by
  have hlc := hS.le
  have hc := hS.max
  have hld := hT.le
  have hd := hT.max
  have HS := hide hS
  have HT := hide hT
  have HB0 := hide (Below.refl w.heap.size w)
  obtain ⟨hok, hrd, hJ6⟩ := jobs_right ha (T := T) (N := N) (fun t h => (hTb t h).2) hl
  obtain ⟨i0, hi, hz0, hz1, hz2⟩ := info_parts Try_infoJ
  have HI := hide hi
  have HTB := hide hTb
  have HJL := hide (fun k => jobs_len (a := a) (T.take k) (N.take k) 0)
  clear hS hT hi hTb
  rw [hNl] at hld ⊢
  go_enter Tryz.func12, Tryz.ntmps12
  go_wp2
  go_loopw [7, 28] (fun v7 i wr => ∃ (k : Nat), k ≤ T.length ∧ i = .int .i64 k ∧ Hid (OwnL jbC 5 71 wr w.heap.size v7 (jobsGo a 0 (T.take k) (N.take k))) ∧ Hid (Below w.heap.size w wr)) (fun _ i _ => T.length - (nI i).toNat)
  case atStart => exact ⟨0, Nat.zero_le _, rfl, OwnL.nil _ _ _ _ _, HB0⟩
  case round =>
    clear HB0
    obtain ⟨k, hk, rfl, HO, HB⟩ := hrel
    by_cases hlt : k < T.length
    · obtain ⟨t, b1, o1, ht, _, rfl, hb1, e1⟩ := Sl.ic_at (HS.out.bel HB.out) hlt
      obtain ⟨n, b2, o2, hn, _, rfl, hb2, e2⟩ := Sl.ic_at (HT.out.bel HB.out) (show k < N.length by omega)
      have kz : (k : Int) < (T.length : Int) := by omega
      have htb := HTB.out t (List.mem_of_getElem? ht)
      have hsn := jobs_snoc (a := a) (i := 0) ht hn
      rw [Nat.zero_add] at hsn
      have hbz := HB.out.size
      have hml : (jobsGo a 0 (T.take k) (N.take k)).length ≤ 6 := by
        have := HJL.out k
        rw [List.length_take] at this; omega
      have HML := hide hml
      have hwa : IntKind.i64.wrap (a + t) = a + t := by rw [IntKind.wrap_i64]; omega
      clear ht hn hml
      rcases useJ_cases t n with ⟨hu, g1⟩ | ⟨hu, g1, g2⟩ | ⟨hu, g1, g2, g3⟩ | ⟨hu, g1, g2, g3⟩
      · rw [hu, if_neg (by simp), List.append_nil] at hsn
        have HSN := hide hsn
        clear hsn hu
        go_wp2
        go_roundw
        case rel => exact ⟨k + 1, by omega, by go_num, by rw [HSN.out]; exact HO, HB⟩
        case measure => simp [nI]; omega
      · rw [hu, if_neg (by simp), List.append_nil] at hsn
        have HSN := hide hsn
        clear hsn hu
        go_wp2
        go_roundw
        case rel => exact ⟨k + 1, by omega, by go_num, by rw [HSN.out]; exact HO, HB⟩
        case measure => simp [nI]; omega
      · rw [hu, if_neg (by simp), List.append_nil] at hsn
        have HSN := hide hsn
        clear hsn hu
        go_wp2
        go_roundw
        case rel => exact ⟨k + 1, by omega, by go_num, by rw [HSN.out]; exact HO, HB⟩
        case measure => simp [nI]; omega
      · rw [hu, if_pos rfl] at hsn
        have HSN := hide hsn
        clear hsn hu
        generalize jobsGo a 0 (T.take k) (N.take k) = k0 at *
        go_wp2_with (at_builtin; refine wpList_append rfl (.tmp 49) (.tmp 60) 69 rfl rfl rfl (run_extend (f := jbC) (base := w.heap.size) (l1 := k0) (l2 := [mkJ a k t n]) Tryz.underlying69 HI.out hz0 hz1 hz2 rfl (by decide) (HO.out.alloc _) (Sl.one (Blk.new _ _ _) rfl rfl (by decide) (by decide)) (jb_ones _) ?_ ?_ ?_) ?_)
        · have := HML.out; simp only [List.length_singleton]; unfold maxLen; omega
        · have := HML.out; simp only [List.length_singleton]; omega
        · simp; omega
        · intro v9 w9 hO9 hg9 hat9
          rw [← HSN.out] at hO9
          have HO9 := hide hO9
          have HB9 : Hid (Below w.heap.size w w9) := hide (Below.grown (kalloc HB.out _) hg9 (by simp; omega) (fun g hg => (HO.out.blk hg).1))
          clear hO9 hg9 hat9
          go_wp2
          go_roundw
          case rel => exact ⟨k + 1, by omega, by go_num, HO9, HB9⟩
          case measure => simp [nI]; omega
    · obtain rfl : k = T.length := by omega
      rw [List.take_length, List.take_of_length_le (show N.length ≤ T.length by omega)] at HO
      have hJ64 : (jobsGo a 0 T N).length ≤ 64 := by omega
      have hch : Q.chk (jobsGo a 0 T N) = 0 := chk_zero.2 ⟨hJ64, hok⟩
      have hro : runOk (jobsGo a 0 T N) = inFrom a (jobsGo a 0 T N) := runOk_from hok hrd
      have hrb : runB (jobsGo a 0 T N) = inFrom a (jobsGo a 0 T N) := by unfold runB; rw [hch, hro]; rfl
      obtain ⟨m, hm⟩ : ∃ m, jobsGo a 0 T N = m := ⟨_, rfl⟩
      rw [hm] at HO hok hrd hJ6 hJ64 hch hro hrb
      clear hm HJL HTB HS HT
      have HRT := hide (okL_iff.1 hok).1
      have HRB := hide hrb
      have HCM := hide hch
      have HDN : Hid ((denyQ m).isSome = !inFrom a m) := hide (by rw [show denyQ m = denyR m by unfold denyQ; rw [if_pos hch], denyR_is, ← hro, ok_not_denied hok]; simp)
      have HQF : Hid (inFrom a m = false → refR m (qA (denyQ m)) (qB (denyQ m)) = (true, 0)) := hide (fun h => by
        have h2 := HDN.out
        rw [h] at h2
        unfold refR
        rw [if_pos hch]
        cases hq : denyQ m with
        | none => rw [hq] at h2; cases h2
        | some q =>
          have hq' : denyR m = some q := by rw [← hq]; unfold denyQ; rw [if_pos hch]
          exact congrArg (·, (0 : Int)) (denyR_some hq'))
      have HAR : Hid (inFrom a m = true → accR m (runS m) = (true, 0)) := hide (fun h => by
        unfold accR runS
        rw [if_pos hch, hrb, h, if_pos rfl, plan_acc hok (by rw [hro]; exact h)])
      have HOL : Hid ((runS m).length ≤ 1000) := hide (by
        unfold runS
        split
        · have := plan_len hJ64; omega
        · simp)
      have HON : Hid (∀ x ∈ runS m, I64 x.no) := hide (by
        unfold runS
        split
        · rename_i h; rw [hrb, ← hro] at h; exact plan_nos hok h
        · simp)
      have HDB := hide (fun D k => dueN_bound D (m := m.take k) (fun y hy => by have := rightJ_iff.1 (HRT.out y (List.mem_of_mem_take hy)); omega))
      obtain ⟨A3, c3, rfl, hS3⟩ := HO.out.sl
      have HS3 := hide hS3
      have h3c := hS3.le
      have h3m := hS3.max
      obtain ⟨w3, hw3⟩ : ∃ x, x = wr := ⟨_, rfl⟩
      subst hw3
      clear HO hS3 hok hrd hch hro hrb hJ64
      go_wp2
      go_loopw [8, 65] (fun v8 i wr => ∃ (i' : Nat), i' ≤ m.length ∧ i = .int .i64 i' ∧ v8 = .bool (inQ a m i') ∧ Hid (Below w3.heap.size w3 wr)) (fun _ i _ => m.length - (nI i).toNat)
      case atStart => exact ⟨0, Nat.zero_le _, rfl, rfl, Below.refl _ _⟩
      case round =>
        obtain ⟨i, hi, rfl, rfl, HBi⟩ := hrel
        obtain ⟨wq, hwq⟩ : ∃ x, x = wr := ⟨_, rfl⟩
        subst hwq
        by_cases hlt : i < m.length
        · obtain ⟨x, b, off, hx, _, rfl, hbw, d0, d1, d2, d3, d4⟩ := Sl.jb_at (HS3.out.bel HBi.out) hlt
          have iz : (i : Int) < (m.length : Int) := by omega
          have HX := hide (inQ_next (a := a) hx)
          have hxr := rightJ_iff.1 (HRT.out x (List.mem_of_getElem? hx))
          have hwd : IntKind.i64.wrap (x.due - a) = x.due - a := by rw [IntKind.wrap_i64]; omega
          obtain ⟨wo, hwo⟩ : ∃ wo, wq.alloc (.cells #[.int .i64 x.no, .int .i64 x.ready, .int .i64 x.due, .int .i64 x.need, .bool x.alt] 71) = wo := ⟨_, rfl⟩
          have HXo : Hid (Blk wo wq.heap.size 71 #[.int .i64 x.no, .int .i64 x.ready, .int .i64 x.due, .int .i64 x.need, .bool x.alt]) := hide (by rw [← hwo]; exact Blk.new _ _ _)
          have HBo : Hid (Below w3.heap.size w3 wo) := hide (by rw [← hwo]; exact kalloc HBi.out _)
          clear hx hxr HBi
          go_wp2
          go_loopw [13, 71] (fun v13 i wr => ∃ (k : Nat), k ≤ m.length ∧ i = .int .i64 k ∧ v13 = .int .i64 (dueN (m.take k) x.due) ∧ Hid (Below wo.heap.size wo wr)) (fun _ i _ => m.length - (nI i).toNat)
          case atStart => exact ⟨0, Nat.zero_le _, rfl, rfl, Below.refl _ _⟩
          case round =>
            obtain ⟨k, hk, rfl, rfl, HBk⟩ := hrel
            have hXk := HXo.out.bel HBk.out
            have x2 := hXk.cell (v := .int .i64 x.due) 2 rfl
            have xl := hXk.lt
            clear hXk
            by_cases hlt2 : k < m.length
            · obtain ⟨y, b', off', hy, _, e', hbw', y0, y1, y2, y3, y4⟩ := Sl.jb_at (HS3.out.bel (kcall HBo.out HBk.out)) hlt2
              cases e'
              have kz : (k : Int) < (m.length : Int) := by omega
              have hyr := rightJ_iff.1 (HRT.out y (List.mem_of_getElem? hy))
              have hnx := dueN_next hy x.due
              have hbd := HDB.out x.due k
              have hlk : (m.take k).length = k := by rw [List.length_take]; omega
              rw [hlk] at hbd
              have hw1 : IntKind.i64.wrap (dueN (m.take k) x.due + y.need) = dueN (m.take k) x.due + y.need := by rw [IntKind.wrap_i64]; omega
              obtain ⟨w5, hw5⟩ : ∃ w5, wr.alloc (.cells #[.int .i64 y.no, .int .i64 y.ready, .int .i64 y.due, .int .i64 y.need, .bool y.alt] 71) = w5 := ⟨_, rfl⟩
              have X5 : Blk w5 wr.heap.size 71 #[.int .i64 y.no, .int .i64 y.ready, .int .i64 y.due, .int .i64 y.need, .bool y.alt] := by rw [← hw5]; exact Blk.new _ _ _
              have hb5 : Below wr.heap.size wr w5 := by rw [← hw5]; exact kalloc (Below.refl _ _) _
              have HB5 := hide (kcall HBk.out hb5)
              have u2 := X5.cell (v := .int .i64 y.due) 2 rfl
              have u3 := X5.cell (v := .int .i64 y.need) 3 rfl
              have ul := X5.lt
              have X6 := HXo.out.bel HB5.out
              have v2 := X6.cell (v := .int .i64 x.due) 2 rfl
              have vl := X6.lt
              generalize dueN (m.take k) x.due = S at *
              clear hy hyr hbd hlk X5 X6 hb5 HBk x2 xl
              by_cases hc : y.due ≤ x.due
              · have g : decide (y.due ≤ x.due) = true := decide_eq_true hc
                rw [if_pos hc] at hnx
                have HNX := hide hnx
                clear hnx hc
                go_wp2
                go_roundw
                case rel => exact ⟨k + 1, by omega, by go_num, by rw [HNX.out], HB5⟩
                case measure => simp [nI]; omega
              · have g : decide (y.due ≤ x.due) = false := decide_eq_false hc
                rw [if_neg hc, Int.add_zero] at hnx
                have HNX := hide hnx
                clear hnx hc
                go_wp2
                go_roundw
                case rel => exact ⟨k + 1, by omega, by go_num, by rw [HNX.out], HB5⟩
                case measure => simp [nI]; omega
            · obtain rfl : k = m.length := by omega
              rw [List.take_length]
              have HBo2 := hide (kcall HBo.out HBk.out)
              cases hin : inQ a m i
              · go_wp2
                go_roundw
                case rel => exact ⟨i + 1, by omega, by go_num, by rw [HX.out, hin]; rfl, HBo2⟩
                case measure => simp [nI]; omega
              · go_wp2
                go_roundw
                case rel => exact ⟨i + 1, by omega, by go_num, by rw [HX.out, hin]; simp, HBo2⟩
                case measure => simp [nI]; omega
        · obtain rfl : i = m.length := by omega
          rw [inQ_all]
          have KR := hide (run22 A3 c3 m wq (HS3.out.bel HBi.out))
          unfold RunE at KR
          rw [HRB.out, HCM.out] at KR
          have KD := hide (fun W (h : Below wq.heap.size wq W) => deny17 A3 c3 m W (HS3.out.bel (kcall HBi.out h)))
          unfold DenyE at KD
          rw [HDN.out, HCM.out] at KD
          have KA := hide (fun A c W (h : Below wq.heap.size wq W) hT => accepts25 A3 c3 m A c (runS m) W (HS3.out.bel (kcall HBi.out h)) hT HOL.out HON.out)
          have KF := hide (fun W (h : Below wq.heap.size wq W) => refutes19 A3 c3 m (qA (denyQ m)) (qB (denyQ m)) W (HS3.out.bel (kcall HBi.out h)))
          have HBo := hide (kcall HB.out (kcall (Below.refl _ _) HBi.out))
          cases hin : inFrom a m
          all_goals
            rw [hin] at KR KD
            have HQF := hide HQF.out
            have HAR := hide HAR.out
            rw [hin] at HQF HAR
          · rw [HQF.out rfl] at KF
            clear HOL HON HAR HDN HRB HCM HDB HRT HS3 HBi HQF KA hin
            generalize qA (denyQ m) = qa at *
            generalize qB (denyQ m) = qb at *
            generalize runS m = sr at *
            go_wp2_with fail
            refine KR.out.mono ?_
            rintro e w5 ⟨A5, c5, rfl, hS5, hb⟩
            have HB5 := hide hb
            clear hb hS5 KR
            go_wp2_with fail
            refine (KD.out _ HB5.out).mono ?_
            rintro e w6 ⟨rfl, hb⟩
            obtain ⟨w7, hw7⟩ : ∃ w7, w6.alloc (.cells #[.int .i64 qa, .int .i64 qb] 76) = w7 := ⟨_, rfl⟩
            have X7 : Blk w7 w6.heap.size 76 #[.int .i64 qa, .int .i64 qb] := by rw [← hw7]; exact Blk.new _ _ _
            have HB7 : Hid (Below wq.heap.size wq w7) := hide (by rw [← hw7]; exact kalloc (kcall HB5.out hb) _)
            have x0 := X7.cell (v := .int .i64 qa) 0 rfl
            have x1 := X7.cell (v := .int .i64 qb) 1 rfl
            have xl := X7.lt
            clear hb KD HB5 X7
            simp only [Bool.not_false]
            go_wp2_with fail
            refine (KF.out _ HB7.out).mono ?_
            rintro e w8 ⟨rfl, hb⟩
            have HB8 := hide (kcall HBo.out (kcall HB7.out hb))
            clear hb KF
            go_wp2
            go_ret
            exact ⟨rfl, HB8.out⟩
          · rw [HAR.out rfl] at KA
            clear HOL HON HAR HDN HRB HCM HDB HRT HS3 HBi HQF KF hin
            generalize qA (denyQ m) = qa at *
            generalize qB (denyQ m) = qb at *
            generalize runS m = sr at *
            go_wp2_with fail
            refine KR.out.mono ?_
            rintro e w5 ⟨A5, c5, rfl, hS5, hb⟩
            have HB5 := hide hb
            have HS5 := hide hS5
            have h5c := hS5.le
            have h5m := hS5.max
            clear hb hS5 KR
            go_wp2_with fail
            refine (KD.out _ HB5.out).mono ?_
            rintro e w6 ⟨rfl, hb⟩
            obtain ⟨w7, hw7⟩ : ∃ w7, w6.alloc (.cells #[.int .i64 qa, .int .i64 qb] 76) = w7 := ⟨_, rfl⟩
            have HS7 : Hid (Sl sxC 3 w7 A5 c5 sr) := hide (by rw [← hw7]; exact (HS5.out.bel hb).alloc _)
            have HB7 : Hid (Below wq.heap.size wq w7) := hide (by rw [← hw7]; exact kalloc (kcall HB5.out hb) _)
            clear hb KD HB5 HS5
            simp only [Bool.not_true]
            go_wp2_with fail
            refine (KA.out _ _ _ HB7.out HS7.out).mono ?_
            rintro e w8 ⟨rfl, hb⟩
            have HB8 := hide (kcall HBo.out (kcall HB7.out hb))
            clear hb KA
            go_wp2
            go_ret
            exact ⟨rfl, HB8.out⟩
end Go.Proofs.YtnngemgfochodaaGreat.J

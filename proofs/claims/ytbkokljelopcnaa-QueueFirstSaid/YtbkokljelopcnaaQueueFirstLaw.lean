/-
  QueueFirst, walked.
-/
import Derived.Test.YtbkokljelopcnaaJWork
import Derived.Test.YtbkokljelopcnaaMapStep
import Derived.Deep.RegionHeld3
namespace Go.Proofs.Ytbkokljelopcnaa
open Go.RowKit Go.Mine Go.Mine.Q
attribute [local go_sem] Oper.semAt_some
def needV (x : Jb) : Value := .int .i64 x.need
def lfV (s : List Sx) (i : Nat) (x : Jb) : Value := .int .i64 (lfAt s i x)
theorem lfV_zero (s : List Sx) : lfV s 0 = needV := by funext x; simp [lfV, lfAt, needV, doneN, sumF]
theorem lfV_next {l : List Jb} (_hp : l.Pairwise fun x y => x.no < y.no) {s : List Sx} {i : Nat} {x : Sx} (hx : s[i]? = some x) {y : Jb} (hy : jobOf l x.no = some y) : Go.Mine.upd (byNo (lfV s i) l) x.no (.int .i64 (lfAt s i y - (x.u - x.f))) = byNo (lfV s (i + 1)) l := by
  obtain ⟨hym, hyn⟩ := jobOf_some hy
  funext n
  unfold Go.Mine.upd byNo
  by_cases e : n = x.no
  · subst e
    rw [if_pos rfl, hy, Option.map_some]
    unfold lfV lfAt
    rw [done_take hx, if_pos hyn.symm]
    congr 2
    omega
  · rw [if_neg e]
    cases hj : jobOf l n with
    | none => rfl
    | some z =>
      rw [Option.map_some, Option.map_some]
      have hzn := (jobOf_some hj).2
      unfold lfV lfAt
      rw [done_take hx, if_neg (fun h => e (by rw [h, hzn])), Int.add_zero]
structure FS (w w3 wr : World) (b6 b7 : Nat) (n : Nat) (m6 m7 : Int → Option Value) : Prop where
  a : MapI Try.prog 3 wr b6 n m6
  b : MapI Try.prog 3 wr b7 n m7
  bel : Below w.heap.size w wr
  lo : w.heap.size ≤ b6 ∧ b6 < b7
  kp : Below w3.heap.size w3 wr
theorem FS.belw {w w3 wr wr' : World} {b6 b7 n : Nat} {m6 m7 : Int → Option Value} (h : FS w w3 wr b6 b7 n m6 m7) (hb : Below wr.heap.size wr wr') : FS w w3 wr' b6 b7 n m6 m7 := ⟨h.a.bel hb, h.b.bel hb, kcall h.bel hb, h.lo, kcall h.kp hb⟩
set_option maxRecDepth 100000 in
set_option maxHeartbeats 8000000 in
theorem queueFirst_law (A : Option Addr) (c : Nat) (l : List Jb) (w : World) (hS : Sl jbC 5 w A c l) :
    Calls Try.prog 4 #[.slice A l.length c] w fun e w' => e = .returned (.bool true) ∧ Below w.heap.size w w' := by
  have HB0 := hide (Below.refl w.heap.size w)
  have hlc := hS.le
  have hc := hS.max
  have KS := hide (sane15 w)
  have KF := hide (fun W (h : Below w.heap.size w W) => right21 A c l W (hS.bel h))
  have K1 := hide (fun W (h : Below w.heap.size w W) => run22 A c l W (hS.bel h))
  have HS := hide hS
  unfold RunE at K1
  clear hS
  cases hR : rightR l
  · rw [hR] at KF
    clear hR
    go_enter Try.func4, Try.ntmps4
    go_wp2_with fail
    refine KS.out.mono ?_
    rintro e w1 ⟨rfl, hb⟩
    have HB1 := hide (kcall HB0.out hb)
    clear hb KS
    go_wp2_with fail
    refine (KF.out _ HB1.out).mono ?_
    rintro e w2 ⟨rfl, hb⟩
    have HB2 := hide (kcall HB1.out hb)
    go_wp2
    go_ret
    exact ⟨rfl, HB2.out⟩
  · rw [hR] at KF
    have hz : chk l = 0 := by unfold rightR at hR; simp at hR; exact hR.2
    obtain ⟨hr, h64, hok⟩ := right_of hz
    rw [hz] at K1
    have hrb : runB l = runOk l := by unfold runB; rw [hz]; rfl
    have HR := hide hr
    have HPW := hide (okL_iff.1 hok).2
    have hmm := @run_makeMap Try.prog
    have HG := hide (plan_good hok)
    have HPA := hide (fun ho => plan_acc hok ho)
    have HPL := hide (plan_len h64)
    have HRS : Hid (runS l = if runOk l = true then plan l else []) := hide (by unfold runS; rw [hrb])
    rw [hrb] at K1
    clear hR hz hr hok hrb
    go_enter Try.func4, Try.ntmps4
    go_wp2_with fail
    refine KS.out.mono ?_
    rintro e w1 ⟨rfl, hb⟩
    have HB1 := hide (kcall HB0.out hb)
    clear hb KS
    go_wp2_with fail
    refine (KF.out _ HB1.out).mono ?_
    rintro e w2 ⟨rfl, hb⟩
    have HB2 := hide (kcall HB1.out hb)
    clear hb KF
    go_wp2_with fail
    refine (K1.out _ HB2.out).mono ?_
    rintro e w3 ⟨A1, c1, rfl, hS1, hb⟩
    have HB3 := hide (kcall HB2.out hb)
    have HS1 := hide hS1
    clear hb K1 hS1
    cases ho : runOk l
    · have hrs := HRS.out
      rw [ho] at hrs
      simp only [Bool.false_eq_true, if_false] at hrs
      rw [hrs]
      simp only [List.length_nil]
      clear hrs HRS ho
      go_wp2
      go_ret
      exact ⟨rfl, HB3.out⟩
    · have hrs := HRS.out
      rw [ho] at hrs
      simp only [if_true] at hrs
      have HAC := hide (HPA.out ho)
      rw [hrs] at HS1
      rw [hrs]
      have HAG := hide (show accGo l 0 (plan l) = true by have h := HAC.out; unfold acc at h; rw [Bool.and_eq_true] at h; exact h.1)
      clear hrs HRS ho HPA
      generalize plan l = s at *
      have hs128 := HPL.out
      have hs1l := HS1.out.le
      have hs1m := HS1.out.max
      have HD := hide (fun n i hi => done_bound (p := s) (fun x hx => by
        obtain ⟨i, hi⟩ := List.getElem?_of_mem hx
        obtain ⟨⟨y, h1, h2, h3, h4⟩, _⟩ := acc_at HAG.out hi
        have := rightJ_iff.1 (HR.out y (jobOf_some h1).1)
        omega) n i hi)
      have HF0 : Hid (FS w w3 ((w3.alloc (.map #[] 0)).alloc (.map #[] 0)) w3.heap.size (w3.heap.size + 1) 0 (byNo needV (l.take 0)) (byNo dueV (l.take 0))) := hide ⟨by rw [List.take_zero]; exact (MapI.made w3 Try.prog 3).alloc _, by
        rw [List.take_zero]
        have := MapI.made (w3.alloc (.map #[] 0)) Try.prog 3
        rw [World.size_alloc] at this; exact this, kalloc (kalloc HB3.out _) _, ⟨HB3.out.size, by omega⟩, kalloc (kalloc (Below.refl _ _) _) _⟩
      have hw3 := HB3.out.size
      go_wp2
      go_loopw [43] (fun v43 wr => ∃ (k : Nat), k ≤ l.length ∧ v43 = .int .i64 k ∧ Hid (FS w w3 wr w3.heap.size (w3.heap.size + 1) k (byNo needV (l.take k)) (byNo dueV (l.take k)))) (fun i _ => l.length - (nI i).toNat)
      case atStart => exact ⟨0, Nat.zero_le _, rfl, HF0⟩
      case round =>
        clear HF0
        obtain ⟨k, hk, rfl, HF⟩ := hrel
        by_cases hlt : k < l.length
        · obtain ⟨x, b, off, hx, _, rfl, hbw, d0, d1, d2, d3, d4⟩ := Sl.jb_at (HS.out.bel HF.out.bel) hlt
          have HX := hide (take_of_get hx)
          have HL := hide (take_lt HPW.out hx)
          have hxr := rightJ_iff.1 (HR.out x (List.mem_of_getElem? hx))
          have hxI : I64 x.no := by unfold I64; omega
          clear hx
          go_wp2_with fail
          refine at_world (fun W => Blk W wr.heap.size 39 #[.int .i64 x.no, .int .i64 x.ready, .int .i64 x.due, .int .i64 x.need, .bool x.alt] ∧ FS w w3 W w3.heap.size (w3.heap.size + 1) k (byNo needV (l.take k)) (byNo dueV (l.take k))) ⟨Blk.new _ _ _, HF.out.belw (kalloc (Below.refl _ _) _)⟩ ?_
          have hlo := HF.out.b.lt
          clear HF d0 d1 d2 d3 d4 hbw
          rintro W ⟨hX, hF⟩
          have x0 := hX.cell (v := .int .i64 x.no) 0 rfl
          have x2 := hX.cell (v := .int .i64 x.due) 2 rfl
          have x3 := hX.cell (v := .int .i64 x.need) 3 rfl
          have xl := hX.lt
          have HF := hide hF
          clear hX hF
          have hne : ∀ m : Nat, m < wr.heap.size → some wr.heap.size ≠ some m := fun m h e => by have := Option.some.inj e; omega
          obtain ⟨W1, E1, gM, gG⟩ := HF.out.a.drew.put Try.underlying3 Try.underlying37 (by unfold maxLen; omega) hxI (.int .i64 x.need)
          have f0 := gcell (b := wr.heap.size) (o := 0) (v := .int .i64 x.no) gG xl (hne _ (by omega)) x0
          have f2 := gcell (b := wr.heap.size) (o := 2) (v := .int .i64 x.due) gG xl (hne _ (by omega)) x2
          have f3 := gcell (b := wr.heap.size) (o := 3) (v := .int .i64 x.need) gG xl (hne _ (by omega)) x3
          have gN : MapI Try.prog 3 W1 (w3.heap.size + 1) k (byNo dueV (l.take k)) := HF.out.b.drew.kept gG (by simp)
          have gBel : Below w.heap.size w W1 := Below.grown HF.out.bel.drew gG HF.out.bel.size (fun g hg => by have := Option.some.inj hg; omega)
          have gKp : Below w3.heap.size w3 W1 := Below.grown HF.out.kp.drew gG HF.out.kp.size (fun g hg => by have := Option.some.inj hg; omega)
          have gl : wr.heap.size < W1.heap.size := Nat.lt_of_lt_of_le xl gG.size
          obtain ⟨W2, E2, gM2, gG2⟩ := gN.put Try.underlying3 Try.underlying37 (by unfold maxLen; omega) hxI (.int .i64 x.due)
          have h0 := gcell (b := wr.heap.size) (o := 0) (v := .int .i64 x.no) gG2 gl (hne _ (by omega)) f0
          have h2 := gcell (b := wr.heap.size) (o := 2) (v := .int .i64 x.due) gG2 gl (hne _ (by omega)) f2
          have h3 := gcell (b := wr.heap.size) (o := 3) (v := .int .i64 x.need) gG2 gl (hne _ (by omega)) f3
          have HF2 : Hid (FS w w3 W2 w3.heap.size (w3.heap.size + 1) (k + 1) (byNo needV (l.take (k + 1))) (byNo dueV (l.take (k + 1)))) := hide ⟨by
            rw [HX.out, ← byNo_snoc HL.out]; exact gM.kept gG2 (by simp), by
            rw [HX.out, ← byNo_snoc HL.out]; exact gM2, Below.grown gBel gG2 gBel.size (fun g hg => by have := Option.some.inj hg; omega), HF.out.lo, Below.grown gKp gG2 gKp.size (fun g hg => by have := Option.some.inj hg; omega)⟩
          clear gM gG gN gBel gKp gM2 gG2 HF HX HL
          go_region_held3 (fun w' => w'.cell? ⟨wr.heap.size, 0, none⟩ = some (.int .i64 x.no) ∧ w'.cell? ⟨wr.heap.size, 2, none⟩ = some (.int .i64 x.due) ∧ w'.cell? ⟨wr.heap.size, 3, none⟩ = some (.int .i64 x.need))
            (first | exact ⟨x0, x2, x3⟩ | exact ⟨f0, f2, f3⟩ | exact ⟨h0, h2, h3⟩ | go_keep) (fail)
          clear E1 E2 x0 x2 x3 f0 f2 f3 h0 h2 h3
          go_wp2
          go_roundw
          case rel => exact ⟨k + 1, by omega, by go_num, HF2⟩
          case measure => simp [nI]; omega
        · obtain rfl : k = l.length := by omega
          have HF1 : Hid (FS w w3 wr w3.heap.size (w3.heap.size + 1) (l.length + 0) (byNo (lfV s 0) l) (byNo dueV l)) := hide (by
            have h := HF.out
            rw [List.take_length] at h
            rw [lfV_zero]; exact h)
          have hb3 := HB3.out
          clear HF
          go_wp2
          go_loopw [10, 60] (fun v10 v60 wr => ∃ (i : Nat), i ≤ s.length ∧ v60 = .int .i64 i ∧ v10 = .int .i64 (lastU 0 (s.take i)) ∧ Hid (FS w w3 wr w3.heap.size (w3.heap.size + 1) (l.length + i) (byNo (lfV s i) l) (byNo dueV l)) ) (fun _ i _ => s.length - (nI i).toNat)
          case atStart => exact ⟨0, Nat.zero_le _, rfl, rfl, HF1⟩
          case round =>
            clear HF1
            obtain ⟨i, hi, rfl, rfl, HF⟩ := hrel
            by_cases hlt2 : i < s.length
            · obtain ⟨x, b, off, hx, _, rfl, hbw, q0, q1, q2⟩ := Sl.sx_at (HS1.out.bel HF.out.kp) hlt2
              obtain ⟨⟨y, hy1, hy2, hy3, hy4⟩, _⟩ := acc_at HAG.out hx
              obtain ⟨hym, hyn⟩ := jobOf_some hy1
              have hyr := rightJ_iff.1 (HR.out y hym)
              have hdn := HD.out y.no i hi
              have iz : (i : Int) < (s.length : Int) := by omega
              have hxI : I64 x.no := by rw [← hyn]; unfold I64; omega
              have HGA : Hid (GoodAt l (s.take i) x) := hide (HG.out (s.take i) x (s.drop (i + 1)) (by rw [← drop_of_get hx, List.take_append_drop]))
              have HY1 := hide hy1
              have HX := hide hx
              obtain ⟨w7, hw7⟩ : ∃ w7, wr.alloc (.cells #[.int .i64 x.no, .int .i64 x.f, .int .i64 x.u] 41) = w7 := ⟨_, rfl⟩
              have X7 : Blk w7 wr.heap.size 41 #[.int .i64 x.no, .int .i64 x.f, .int .i64 x.u] := by rw [← hw7]; exact Blk.new _ _ _
              have hb7 : Below wr.heap.size wr w7 := by rw [← hw7]; exact kalloc (Below.refl _ _) _
              have HF7 := hide (HF.out.belw hb7)
              have HX7 := hide X7
              have HLT : Hid (lastU 0 (s.take (i + 1)) = x.u) := hide (by rw [take_of_get hx, lastU_append]; rfl)
              generalize hlu : lastU 0 (s.take i) = la at *
              have HLU := hide hlu
              have hin : (i : Int) * 1099511627776 ≤ 140737488355328 := by omega
              have hwa : IntKind.i64.wrap (x.u - x.f) = x.u - x.f := by rw [IntKind.wrap_i64]; omega
              have hwb : IntKind.i64.wrap (lfAt s i y - (x.u - x.f)) = lfAt s i y - (x.u - x.f) := by rw [IntKind.wrap_i64]; unfold lfAt; omega
              clear hx hy1 hy2 hy3 hy4 hb7 X7 HF hdn hin hyr hlu
              go_wp2
              go_loopw [66] (fun v66 wr => ∃ (j : Nat), j ≤ l.length ∧ v66 = .int .i64 j ∧ Hid (Below w7.heap.size w7 wr)) (fun i _ => l.length - (nI i).toNat)
              case atStart => exact ⟨0, Nat.zero_le _, rfl, Below.refl _ _⟩
              case round =>
                obtain ⟨j, hj, rfl, HBj⟩ := hrel
                have hXj := HX7.out.bel HBj.out
                have hFj := HF7.out.belw HBj.out
                by_cases hlt3 : j < l.length
                · obtain ⟨z, b2, off2, hz, _, rfl, hbw2, d0, d1, d2, d3, d4⟩ := Sl.jb_at (HS.out.bel hFj.bel) hlt3
                  have hzm := List.mem_of_getElem? hz
                  have hzr := rightJ_iff.1 (HR.out z hzm)
                  have hzI : I64 z.no := by unfold I64; omega
                  have jz : (j : Int) < (l.length : Int) := by omega
                  obtain ⟨w8, hw8⟩ : ∃ w8, wr.alloc (.cells #[.int .i64 z.no, .int .i64 z.ready, .int .i64 z.due, .int .i64 z.need, .bool z.alt] 39) = w8 := ⟨_, rfl⟩
                  have hb8 : Below wr.heap.size wr w8 := by rw [← hw8]; exact kalloc (Below.refl _ _) _
                  have hF8 := hFj.belw hb8
                  have hX8 := hXj.bel hb8
                  have m0 := hX8.cell (v := .int .i64 x.no) 0 rfl
                  have m1 := hX8.cell (v := .int .i64 x.f) 1 rfl
                  have m2 := hX8.cell (v := .int .i64 x.u) 2 rfl
                  have ml := hX8.lt
                  have hY8 : Blk w8 wr.heap.size 39 #[.int .i64 z.no, .int .i64 z.ready, .int .i64 z.due, .int .i64 z.need, .bool z.alt] := by rw [← hw8]; exact Blk.new _ _ _
                  have n0 := hY8.cell (v := .int .i64 z.no) 0 rfl
                  have n1 := hY8.cell (v := .int .i64 z.ready) 1 rfl
                  have n2 := hY8.cell (v := .int .i64 z.due) 2 rfl
                  have nl := hY8.lt
                  have hlk := hF8.a.look Try.underlying3 Try.underlying37 (Try.zeroValue3 _) hzI
                  rw [byNo_mem HPW.out hzm] at hlk
                  simp only [lfV, Option.getD_some] at hlk
                  have hlk2 := hF8.b.look Try.underlying3 Try.underlying37 (Try.zeroValue3 _) hxI
                  rw [show byNo dueV l x.no = some (.int .i64 y.due) by unfold byNo; rw [HY1.out]; rfl] at hlk2
                  simp only [Option.getD_some] at hlk2
                  have HB8 := hide (kcall HBj.out hb8)
                  have hga := HGA.out z hzm
                  have hlf : lfAt s i z = z.need - doneN z.no (s.take i) := rfl
                  have hcs : (lfAt s i z == 0) = true ∨ ((lfAt s i z == 0) = false ∧ ((decide (z.ready < x.f) = false) ∨ (decide (z.ready < x.f) = true ∧ decide (la < x.f) = false)) ∧
                      (((z.no != x.no) = false) ∨ ((z.no != x.no) = true ∧ decide (z.ready < x.u) = false) ∨ ((z.no != x.no) = true ∧ decide (z.ready < x.u) = true ∧ decide (z.due < y.due) = false ∧ (z.due == y.due) = false) ∨
                        ((z.no != x.no) = true ∧ decide (z.ready < x.u) = true ∧ decide (z.due < y.due) = false ∧ (z.due == y.due) = true ∧ decide (z.no < x.no) = false))) := by
                    by_cases h0 : lfAt s i z = 0
                    · left; simpa using h0
                    · right
                      obtain ⟨g1, g2⟩ := hga (by omega)
                      have g3 := g2 y HY1.out
                      rw [HLU.out] at g1
                      refine ⟨by simpa using h0, ?_, ?_⟩
                      · by_cases h1 : z.ready < x.f
                        · right; exact ⟨decide_eq_true h1, decide_eq_false (fun h2 => g1 ⟨h1, h2⟩)⟩
                        · left; exact decide_eq_false h1
                      · by_cases h1 : z.no = x.no
                        · left; simpa using h1
                        · right
                          by_cases h2 : z.ready < x.u
                          · right
                            have hnb : ¬ before z y := fun hb => g3 ⟨h1, h2, hb⟩
                            unfold before at hnb
                            by_cases h3 : z.due = y.due
                            · right; exact ⟨by simpa using h1, decide_eq_true h2, decide_eq_false (by omega), by simpa using h3, decide_eq_false (by rw [← hyn]; omega)⟩
                            · left; exact ⟨by simpa using h1, decide_eq_true h2, decide_eq_false (by omega), by simpa using h3⟩
                          · left; exact ⟨by simpa using h1, decide_eq_false h2⟩
                  clear hXj hFj hz hzm hzr hzI hb8 hF8 hX8 hY8 hga hlf
                  generalize lfAt s i z = lz at *
                  rcases hcs with h0 | ⟨h0, (h1 | ⟨h1, h2⟩), (h3 | ⟨h3, h4⟩ | ⟨h3, h4, h5, h6⟩ | ⟨h3, h4, h5, h6, h7⟩)⟩
                  all_goals
                    go_wp2
                    go_roundw
                    case rel => exact ⟨j + 1, by omega, by go_num, HB8⟩
                    case measure => simp [nI]; omega
                · have m0 := hXj.cell (v := .int .i64 x.no) 0 rfl
                  have m1 := hXj.cell (v := .int .i64 x.f) 1 rfl
                  have m2 := hXj.cell (v := .int .i64 x.u) 2 rfl
                  have ml := hXj.lt
                  have hlk := hFj.a.look Try.underlying3 Try.underlying37 (Try.zeroValue3 _) hxI
                  rw [show byNo (lfV s i) l x.no = some (.int .i64 (lfAt s i y)) by unfold byNo; rw [HY1.out]; rfl] at hlk
                  simp only [Option.getD_some] at hlk
                  have HFj := hide hFj
                  have HNX := hide (lfV_next HPW.out HX.out HY1.out)
                  clear hXj hFj
                  go_wp2_with fail
                  obtain ⟨w9, e9, M9, g9⟩ := HFj.out.a.put Try.underlying3 Try.underlying37 (by unfold maxLen; omega) hxI (.int .i64 (lfAt s i y - (x.u - x.f)))
                  rw [e9]
                  rw [HNX.out] at M9
                  have HF9 : Hid (FS w w3 w9 w3.heap.size (w3.heap.size + 1) (l.length + (i + 1)) (byNo (lfV s (i + 1)) l) (byNo dueV l)) := hide ⟨M9, (HFj.out.b.kept g9 (by simp)).mono (by omega), Below.grown HFj.out.bel g9 HFj.out.bel.size (fun g hg => by have := Option.some.inj hg; omega), HFj.out.lo, Below.grown HFj.out.kp g9 HFj.out.kp.size (fun g hg => by have := Option.some.inj hg; omega)⟩
                  have x1 := HX7.out.bel HBj.out |>.grown g9 (by have := HFj.out.a.lt; have := HF7.out.a.lt; simp; intro e; have := map_notcells HFj.out.a (HX7.out.bel HBj.out); omega)
                  have m1 := x1.cell (v := .int .i64 x.f) 1 rfl
                  have m2 := x1.cell (v := .int .i64 x.u) 2 rfl
                  have ml := x1.lt
                  clear M9 g9 e9 HFj HNX hlk x1
                  go_wp2
                  go_roundw
                  case rel => exact ⟨i + 1, by omega, by go_num, by rw [HLT.out], HF9⟩
                  case measure => simp [nI]; omega
            · go_wp2
              go_ret
              exact ⟨rfl, HF.out.bel⟩
end Go.Proofs.Ytbkokljelopcnaa

/-
  QueueEither, walked.
-/
import Derived.Test.YtbkokljelopcnaaJM7
namespace Go.Proofs.Ytbkokljelopcnaa
open Go.RowKit Go.Mine Go.Mine.Q
attribute [local go_sem] Oper.semAt_some
theorem accGo_nos {l : List Jb} : ∀ {s : List Sx} {last : Int}, accGo l last s = true → ∀ x ∈ s, ∃ y ∈ l, y.no = x.no
  | [], _, _, x, hx => by simp at hx
  | x :: s, last, h, z, hz => by
    obtain ⟨⟨y, h1, _⟩, h2⟩ := accGo_cons.1 h
    rcases List.mem_cons.1 hz with rfl | hz
    · exact ⟨y, (jobOf_some h1).1, (jobOf_some h1).2⟩
    · exact accGo_nos h2 z hz
theorem plan_nos {l : List Jb} (h : okL l = true) (ho : runOk l = true) : ∀ x ∈ plan l, I64 x.no := by
  intro x hx
  have h1 := plan_acc h ho
  unfold acc at h1
  rw [Bool.and_eq_true] at h1
  obtain ⟨y, hy, e⟩ := accGo_nos h1.1 x hx
  have := rightJ_iff.1 ((okL_iff.1 h).1 y hy)
  unfold I64; omega
theorem plan_len {l : List Jb} (h64 : l.length ≤ 64) : (plan l).length ≤ 128 := by
  rw [← soFar_all]; exact soFar_len l _ h64
set_option maxRecDepth 100000 in
set_option maxHeartbeats 4000000 in
theorem queueEither_law (A : Option Addr) (c : Nat) (l : List Jb) (B : Option Addr) (d : Nat) (s : List Sx) (f u : Int) (w : World) (hS : Sl jbC 5 w A c l) (hT : Sl sxC 3 w B d s) (hJ : ∀ x ∈ s, SxS x) :
    Calls Try.prog 7 #[.slice A l.length c, .slice B s.length d, .agg #[.int .i64 f, .int .i64 u]] w fun e w' => e = .returned (.bool true) ∧ Below w.heap.size w w' := by
  have X0 := Blk.new w #[.int .i64 f, .int .i64 u] 24
  have hb0 : Below w.heap.size w (w.alloc (.cells #[.int .i64 f, .int .i64 u] 24)) := kalloc (Below.refl _ _) _
  have HB0 := hide hb0
  have hld := hT.le
  have hd := hT.max
  have KS := hide (sane15 (w.alloc (.cells #[.int .i64 f, .int .i64 u] 24)))
  have KF := hide (fun W (h : Below w.heap.size w W) => right21 A c l W (hS.bel h))
  have K1 := hide (fun W (h : Below w.heap.size w W) => run22 A c l W (hS.bel h))
  have K2 := hide (fun W (h : Below w.heap.size w W) => deny17 A c l W (hS.bel h))
  have K3 := hide (fun (B : Option Addr) (d : Nat) (s : List Sx) W (h : Below w.heap.size w W) (hT : Sl sxC 3 W B d s) (hs : s.length ≤ 1000) (hI : ∀ x ∈ s, I64 x.no) => accepts25 A c l B d s W (hS.bel h) hT hs hI)
  have K4 := hide (fun (f u : Int) W (h : Below w.heap.size w W) => refutes19 A c l f u W (hS.bel h))
  have HI := hide (fun x hx => (hJ x hx).1)
  have HT := hide hT
  unfold DenyE at K2
  unfold RunE at K1
  clear hS hb0 hT hJ
  cases hR : rightR l
  · rw [hR] at KF
    clear hR
    go_enter Try.func7, Try.ntmps7
    go_wp2_with fail
    refine KS.out.mono ?_
    rintro e w1 ⟨rfl, hb⟩
    have HB1 := hide (kcall HB0.out hb)
    clear hb KS X0
    go_wp2_with fail
    refine (KF.out _ HB1.out).mono ?_
    rintro e w2 ⟨rfl, hb⟩
    have HB2 := hide (kcall HB1.out hb)
    go_wp2
    go_ret
    exact ⟨rfl, HB2.out⟩
  · rw [hR] at KF
    have hz : chk l = 0 := by unfold rightR at hR; simp at hR; exact hR.2
    obtain ⟨hr, h64, hok⟩ := right_of hz
    rw [hz] at K1 K2
    have hrb : runB l = runOk l := by unfold runB; rw [hz]; rfl
    have hden : (denyQ l).isSome = !runOk l := by rw [show denyQ l = denyR l by unfold denyQ; rw [if_pos hz], denyR_is, ok_not_denied hok]; simp
    have HA : Hid (∀ s, accR l s = (acc l s, 0)) := hide (fun s => by unfold accR; rw [if_pos hz])
    have HF : Hid (∀ f u, refR l f u = (full l f u, 0)) := hide (fun f u => by unfold refR; rw [if_pos hz])
    have HP := hide (fun ho => plan_acc hok ho)
    have HPN := hide (fun ho => plan_nos hok ho)
    have HPL := hide (plan_len h64)
    have HQ : Hid (runOk l = false → full l (qA (denyQ l)) (qB (denyQ l)) = true) := hide (fun h => by
      rw [h] at hden
      cases hq : denyQ l with
      | none => rw [hq] at hden; cases hden
      | some q =>
        have hq' : denyR l = some q := by rw [← hq]; unfold denyQ; rw [if_pos hz]
        exact denyR_some hq')
    have HAO := hide (fun (s : List Sx) (h : acc l s = true) => acc_ok hok h)
    have HFO : Hid (full l f u = true → runOk l = false) := hide (fun h => by
      have := (denied_iff hok).2 ⟨f, u, h⟩
      rw [ok_not_denied hok, this]; rfl)
    rw [hrb] at K1
    rw [hden] at K2
    have HRS : Hid (runS l = if runOk l = true then plan l else []) := hide (by unfold runS; rw [hrb])
    clear hR hz hr hok hrb hden
    go_enter Try.func7, Try.ntmps7
    go_wp2_with fail
    refine KS.out.mono ?_
    rintro e w1 ⟨rfl, hb⟩
    have HB1 := hide (kcall HB0.out hb)
    have X1 := X0.bel hb
    clear hb KS X0
    go_wp2_with fail
    refine (KF.out _ HB1.out).mono ?_
    rintro e w2 ⟨rfl, hb⟩
    have HB2 := hide (kcall HB1.out hb)
    have X2 := X1.bel hb
    clear hb KF X1
    by_cases hs : s.length ≤ 300
    · have hsi : ¬ (300 : Int) < (s.length : Int) := by omega
      have HSL := hide (show s.length ≤ 1000 by omega)
      clear hs
      go_wp2_with fail
      refine (K1.out _ HB2.out).mono ?_
      rintro e w3 ⟨A1, c1, rfl, hS1, hb⟩
      have HB3 := hide (kcall HB2.out hb)
      have X3 := X2.bel hb
      have HS1 := hide hS1
      clear hb K1 X2 hS1
      go_wp2_with fail
      refine (K2.out _ HB3.out).mono ?_
      rintro e w4 ⟨rfl, hb⟩
      have HS1 := hide (HS1.out.bel hb)
      have HB4 := hide (kcall HB3.out hb)
      have X4 := X3.bel hb
      clear hb K2 X3
      cases ho : runOk l
      · have hrs := HRS.out
        rw [ho] at HAO HQ hrs
        simp only [Bool.false_eq_true, if_false] at hrs
        rw [hrs]
        simp only [Bool.not_false]
        have HQ2 := hide (HQ.out rfl)
        have hao : acc l s = false := by cases h : acc l s; rfl; exact absurd (HAO.out s h) (by simp)
        have K3b := hide (fun W h hT => K3.out B d s W h hT HSL.out HI.out)
        rw [HA.out, hao] at K3b
        have K4b := hide (fun W h => K4.out f u W h)
        rw [HF.out] at K4b
        have K4a := hide (fun W h => K4.out (qA (denyQ l)) (qB (denyQ l)) W h)
        rw [HF.out, HQ2.out] at K4a
        generalize qA (denyQ l) = a at *
        generalize qB (denyQ l) = b at *
        generalize full l f u = fb at *
        clear hrs HRS HQ HQ2 hao K3 K4 HA HF HP HPN HPL HAO HS1 ho HFO
        obtain ⟨w5, hw5⟩ : ∃ w5, w4.alloc (.cells #[.int .i64 a, .int .i64 b] 24) = w5 := ⟨_, rfl⟩
        have X5 : Blk w5 w.heap.size 24 #[.int .i64 f, .int .i64 u] := by rw [← hw5]; exact X4.alloc _
        have Y5 : Blk w5 w4.heap.size 24 #[.int .i64 a, .int .i64 b] := by rw [← hw5]; exact Blk.new _ _ _
        have HB5 : Hid (Below w.heap.size w w5) := hide (by rw [← hw5]; exact kalloc HB4.out _)
        have y0 := Y5.cell (v := .int .i64 a) 0 rfl
        have y1 := Y5.cell (v := .int .i64 b) 1 rfl
        have yl := Y5.lt
        clear X4 Y5
        simp only [List.length_nil]
        go_wp2_with fail
        refine (K4a.out _ HB5.out).mono ?_
        rintro e w6 ⟨rfl, hb⟩
        have HB6 := hide (kcall HB5.out hb)
        have X6 := X5.bel hb
        clear hb K4a X5 y0 y1 yl
        go_wp2_with fail
        refine (K3b.out _ HB6.out (HT.out.bel HB6.out)).mono ?_
        rintro e w7 ⟨rfl, hb⟩
        have HB7 := hide (kcall HB6.out hb)
        have X7 := X6.bel hb
        have x0 := X7.cell (v := .int .i64 f) 0 rfl
        have x1 := X7.cell (v := .int .i64 u) 1 rfl
        have xl := X7.lt
        clear hb K3b X6
        go_wp2_with fail
        refine (K4b.out _ HB7.out).mono ?_
        rintro e w8 ⟨rfl, hb⟩
        have HB8 := hide (kcall HB7.out hb)
        cases fb
        all_goals
          go_wp2
          go_ret
          exact ⟨rfl, HB8.out⟩
      · have hrs := HRS.out
        rw [ho] at hrs HP HPN HFO
        simp only [if_true] at hrs
        rw [hrs] at HS1
        rw [hrs]
        simp only [Bool.not_true]
        have hfu : full l f u = false := by cases h : full l f u; rfl; exact absurd (HFO.out h) (by simp)
        have K3a := hide (fun W h hT => K3.out A1 c1 (plan l) W h hT (by have := HPL.out; omega) (HPN.out rfl))
        rw [HA.out, HP.out rfl] at K3a
        have K3b := hide (fun W h hT => K3.out B d s W h hT HSL.out HI.out)
        rw [HA.out] at K3b
        have K4b := hide (fun W h => K4.out f u W h)
        rw [HF.out, hfu] at K4b
        generalize acc l s = ab at *
        generalize plan l = p at *
        generalize qA (denyQ l) = a at *
        generalize qB (denyQ l) = b at *
        clear hrs HRS HQ hfu K3 K4 HA HF HP HPN HPL HAO ho HFO
        obtain ⟨w5, hw5⟩ : ∃ w5, w4.alloc (.cells #[.int .i64 a, .int .i64 b] 24) = w5 := ⟨_, rfl⟩
        have X5 : Blk w5 w.heap.size 24 #[.int .i64 f, .int .i64 u] := by rw [← hw5]; exact X4.alloc _
        have HS5 : Hid (Sl sxC 3 w5 A1 c1 p) := hide (by rw [← hw5]; exact HS1.out.alloc _)
        have HB5 : Hid (Below w.heap.size w w5) := hide (by rw [← hw5]; exact kalloc HB4.out _)
        clear X4
        go_wp2_with fail
        refine (K3a.out _ HB5.out HS5.out).mono ?_
        rintro e w6 ⟨rfl, hb⟩
        have HB6 := hide (kcall HB5.out hb)
        have X6 := X5.bel hb
        clear hb K3a X5
        go_wp2_with fail
        refine (K3b.out _ HB6.out (HT.out.bel HB6.out)).mono ?_
        rintro e w7 ⟨rfl, hb⟩
        have HB7 := hide (kcall HB6.out hb)
        have X7 := X6.bel hb
        have x0 := X7.cell (v := .int .i64 f) 0 rfl
        have x1 := X7.cell (v := .int .i64 u) 1 rfl
        have xl := X7.lt
        clear hb K3b X6
        go_wp2_with fail
        refine (K4b.out _ HB7.out).mono ?_
        rintro e w8 ⟨rfl, hb⟩
        have HB8 := hide (kcall HB7.out hb)
        cases ab
        all_goals
          go_wp2
          go_ret
          exact ⟨rfl, HB8.out⟩
    · have hsi : (300 : Int) < (s.length : Int) := by omega
      go_wp2
      go_ret
      exact ⟨rfl, HB2.out⟩
end Go.Proofs.Ytbkokljelopcnaa

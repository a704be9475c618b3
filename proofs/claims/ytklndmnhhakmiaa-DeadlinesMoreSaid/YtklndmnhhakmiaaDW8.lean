/-
  deadlines: Left of the program.
-/
import Derived.Test.YtklndmnhhakmiaaDW7
namespace Go.Proofs.Ytklndmnhhakmiaa
open Go.RowKit Go.Mine Go.Mine.B
attribute [local go_sem] Oper.semAt_some
def LeftE (r : Int × Int) (w : World) (e : Ending) (w' : World) : Prop := e = .returned (.tuple #[.int .i64 r.1, .int .i64 r.2]) ∧ Below w.heap.size w w'
theorem due_bound {b : List Bu} {l : List Tr} {n u k : Int} (h : (dueV 400 1 b l n u k).2 = 0) {s : Int} (hs : stage s) : 0 ≤ qg (dueV 400 1 b l n u k).1 s ∧ qg (dueV 400 1 b l n u k).1 s ≤ 1103806595072 := by
  by_cases hz : chk 400 b l = 0
  · rcases Bool.eq_false_or_eq_true (timeB u && timeB k && has b n) with h2 | h2
    · rw [dueV_good hz h2, qg_tq _ _ hs]
      have h3 := path_ok (okQ_stq (chk_zero' hz).1 n u k) s
      simp only [Bool.and_eq_true] at h2
      have h4 := timeB_iff.1 h2.1.1
      omega
    · rw [dueV_arg hz h2] at h; exact absurd h (by decide)
  · rw [dueV_bad hz] at h; exact absurd h hz
theorem times56_one (t : Int) (W : World) : Calls Try.prog 56 #[.slice (some ⟨W.heap.size, 0, none⟩) 1 1] (W.alloc (.cells #[.int .i64 t] 3)) fun e w' => e = .returned (.bool (timeB t)) ∧ W.alloc (.cells #[.int .i64 t] 3) = w' := by
  have hs : Sl ic 1 (W.alloc (.cells #[.int .i64 t] 3)) (some ⟨W.heap.size, 0, none⟩) 1 [t] := blit ic 1 W 3 [t] 1 rfl rfl (fun _ _ => rfl) rfl (by decide)
  have h := times56 (some ⟨W.heap.size, 0, none⟩) 1 [t] (W.alloc (.cells #[.int .i64 t] 3)) hs
  simp only [List.all_cons, List.all_nil, Bool.and_true, List.length_cons, List.length_nil, Nat.zero_add] at h
  exact h
set_option maxHeartbeats 2000000 in
theorem left28 (A : Option Addr) (c : Nat) (b : List Bu) (B : Option Addr) (d : Nat) (l : List Tr) (n u k s t : Int) (w : World) (hS : Sl buC 5 w A c b) (hT : Sl trC 7 w B d l) (hI : buS b) (hJ : trS l) :
    Calls Try.prog 28 #[.slice A b.length c, .slice B l.length d, .int .i64 n, .int .i64 u, .int .i64 k, .int .i64 s, .int .i64 t] w (LeftE (leftV 400 1 b l n u k s t) w) := by
  have K := hide (due26 A c b B d l n u k w hS hT hI hJ)
  have HL := (show leftV 400 1 b l n u k s t = if (dueV 400 1 b l n u k).2 ≠ 0 then (0, (dueV 400 1 b l n u k).2) else if (inR s 0 3 && timeB t) = true then (qg (dueV 400 1 b l n u k).1 s - t, 0) else (0, 1) from rfl)
  have HBD := hide (fun (h : (dueV 400 1 b l n u k).2 = 0) (hs : stage s) => due_bound h hs)
  generalize leftV 400 1 b l n u k s t = R at *
  generalize dueV 400 1 b l n u k = D at *
  obtain ⟨⟨q1, q2, q3, q4⟩, z⟩ := D
  simp only at HL HBD
  clear hS hT hI hJ
  by_cases hz : z = 0
  · subst hz
    rw [if_neg (by simp)] at HL
    have KT := hide (fun (W : World) (g : Nat) (hg : W.heap.size = g) => (show Calls Try.prog 56 #[.slice (some ⟨g, 0, none⟩) 1 1] (W.alloc (.cells #[.int .i64 t] 3)) (fun e w' => e = .returned (.bool (timeB t)) ∧ W.alloc (.cells #[.int .i64 t] 3) = w') from by subst hg; exact times56_one t W))
    have HTB := hide (timeB_iff (t := t))
    generalize timeB t = r at *
    by_cases h0 : s < 0
    · have g1 : decide (s < 0) = true := by simpa using h0
      have HE := hide (HL.trans (if_neg (by simp [inR, show ¬ 0 ≤ s by omega])))
      clear HL HBD h0
      go_enter Try.func28, Try.ntmps28
      go_wp2_with fail
      refine K.out.mono ?_
      rintro e w1 ⟨rfl, hb⟩
      have HB1 := hide hb
      clear hb K
      simp only [qV, qC]
      go_wp2
      refine bodyPost_ret (results_tmp2 rfl _ _ _) rfl ⟨by rw [HE.out]; rfl, kalloc HB1.out _⟩
    · have g1 : decide (s < 0) = false := by simpa using h0
      by_cases h1 : 4 ≤ s
      · have g2 : decide (4 ≤ s) = true := by simpa using h1
        have HE := hide (HL.trans (if_neg (by simp [inR, show ¬ s ≤ 3 by omega])))
        clear HL HBD h0 h1
        go_enter Try.func28, Try.ntmps28
        go_wp2_with fail
        refine K.out.mono ?_
        rintro e w1 ⟨rfl, hb⟩
        have HB1 := hide hb
        clear hb K
        simp only [qV, qC]
        go_wp2
        refine bodyPost_ret (results_tmp2 rfl _ _ _) rfl ⟨by rw [HE.out]; rfl, kalloc HB1.out _⟩
      · have g2 : decide (4 ≤ s) = false := by simpa using h1
        have hin : inR s 0 3 = true := inR_iff.2 ⟨by omega, by omega⟩
        rw [hin, Bool.true_and] at HL
        cases r
        · have HE := hide (HL.trans (if_neg (by simp)))
          clear HL HBD h0 h1 hin
          go_enter Try.func28, Try.ntmps28
          go_wp2_with fail
          refine K.out.mono ?_
          rintro e w1 ⟨rfl, hb⟩
          have HB1 := hide hb
          clear hb K
          simp only [qV, qC]
          go_wp2_with fail
          with_reducible refine (KT.out _ _ (World.size_alloc _ _)).mono ?_
          rintro e w2 ⟨rfl, rfl⟩
          go_wp2
          refine bodyPost_ret (results_tmp2 rfl _ _ _) rfl ⟨by rw [HE.out]; rfl, kalloc (kalloc HB1.out _) _⟩
        · have HE := hide (HL.trans (if_pos rfl))
          have hb := HBD.out rfl ⟨by omega, by omega⟩
          have ht := HTB.out.1 rfl
          have hw : IntKind.i64.wrap (qg (q1, q2, q3, q4) s - t) = qg (q1, q2, q3, q4) s - t := by rw [IntKind.wrap_i64]; omega
          have hs4 : s = 0 ∨ s = 1 ∨ s = 2 ∨ s = 3 := by omega
          clear HL HBD h0 h1 hin hb ht HTB
          rcases hs4 with rfl | rfl | rfl | rfl
          all_goals
            simp only [qg] at hw HE
            simp only [Int.reduceEq, if_true, if_false] at hw HE
            go_enter Try.func28, Try.ntmps28
            go_wp2_with fail
            refine K.out.mono ?_
            rintro e w1 ⟨rfl, hb⟩
            have HB1 := hide hb
            clear hb K
            simp only [qV, qC]
            go_wp2_with fail
            with_reducible refine (KT.out _ _ (World.size_alloc _ _)).mono ?_
            rintro e w2 ⟨rfl, rfl⟩
            go_wp2
            refine bodyPost_ret (results_tmp2 rfl _ _ _) rfl ⟨by rw [HE.out]; rfl, kalloc (kalloc HB1.out _) _⟩
  · have gz : (z != 0) = true := by simpa using hz
    have HE := hide (HL.trans (if_pos hz))
    clear HL HBD hz
    go_enter Try.func28, Try.ntmps28
    go_wp2_with fail
    refine K.out.mono ?_
    rintro e w1 ⟨rfl, hb⟩
    have HB1 := hide hb
    clear hb K
    simp only [qV, qC]
    go_wp2
    refine bodyPost_ret (results_tmp2 rfl _ _ _) rfl ⟨by rw [HE.out]; rfl, kalloc HB1.out _⟩
end Go.Proofs.Ytklndmnhhakmiaa

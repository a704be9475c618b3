/-
  deadlines: Due of the program, where nothing is found; the word's iterator made.
-/
import Derived.Test.YtklndmnhhakmiaaDW4
namespace Go.Proofs.Ytklndmnhhakmiaa
open Go.RowKit Go.Mine Go.Mine.B
attribute [local go_sem] Oper.semAt_some
theorem find_view (b : List Bu) (p : Pu) (n : Int) : (viewB b p).find? (fun y => decide (y.lang = n)) = if has b n = true then some ⟨n, (p n).getD q0⟩ else none := by
  induction b with
  | nil => simp [has, viewB]
  | cons y b ih =>
    have e : viewB (y :: b) p = ⟨y.lang, (p y.lang).getD q0⟩ :: viewB b p := rfl
    rw [e, List.find?_cons]
    by_cases hy : y.lang = n
    · subst hy; simp [has]
    · have h2 : has (y :: b) n = has b n := by simp [has, hy]
      rw [h2, ← ih]
      simp [hy]
theorem stages58 (y : Bu) (u : Int) (w : World) : Calls Try.prog 58 #[.agg (wdC y u).toArray] w fun e w' => e = .returned (.func (.func 66) #[] #[.pointer (some ⟨w.heap.size, 0, none⟩)]) ∧ w' = w.alloc (.cells (wdC y u).toArray 74) := by
  obtain ⟨y1, y2, y3, y4, y5⟩ := y
  simp only [wdC]
  go_enter Try.func58, Try.ntmps58
  go_wp2
  go_ret
  exact ⟨rfl, rfl⟩
set_option maxHeartbeats 2000000 in
theorem due26_none (A : Option Addr) (c : Nat) (b : List Bu) (B : Option Addr) (d : Nat) (l : List Tr) (n u k : Int) (w : World) (hS : Sl buC 5 w A c b) (hT : Sl trC 7 w B d l) (hI : buS b) (hJ : trS l) (hz : chk 400 b l = 0) (ht : (timeB u && timeB k) = true) (hn : has b n = false) :
    Calls Try.prog 26 #[.slice A b.length c, .slice B l.length d, .int .i64 n, .int .i64 u, .int .i64 k] w (DueE (dueV 400 1 b l n u k) w) := by
  have X0 := hide (Blk.new w #[.int .i64 0, .int .i64 0, .int .i64 0, .int .i64 0] 24)
  have HB0 := hide (kalloc (Below.refl w.heap.size w) (.cells #[.int .i64 0, .int .i64 0, .int .i64 0, .int .i64 0] 24))
  have K18 := hide (check18 A c b B d l _ (hS.bel HB0.out) (hT.bel HB0.out) hI hJ)
  rw [hz] at K18
  have K56 := hide (fun W => times56_two u k W)
  rw [ht] at K56
  have K20 := hide (fun W (h : Below w.heap.size w W) => standing20 A c b B d l u k W (hS.bel h) (hT.bel h) hI hJ)
  have ha := argA_of (by simp only [Bool.and_eq_true] at ht; exact ht.1) (by simp only [Bool.and_eq_true] at ht; exact ht.2)
  rw [(stand_ok hz ha).1, (stand_ok hz ha).2] at K20
  have K57 := hide (fun A9 c9 W (h9 : Sl buC 5 W A9 c9 (standing b l u k)) => find57 A9 c9 (standing b l u k) n u W h9)
  rw [show (standing b l u k).find? (fun y => decide (y.lang = n)) = none from (find_view b (fin b l u k) n).trans (if_neg (by simp [hn]))] at K57
  have HE := hide (dueV_arg (n := n) (u := u) (k := k) hz (by rw [hn, Bool.and_false]))
  generalize dueV 400 1 b l n u k = R at *
  generalize standing b l u k = L at *
  clear hS hT hI hJ hz ht ha hn
  go_enter Try.func26, Try.ntmps26
  go_wp2_with fail
  refine K18.out.mono ?_
  rintro e w1 ⟨rfl, hb⟩
  have HB1 := hide (kcall HB0.out hb)
  have X1 := hide (X0.out.bel hb)
  clear hb K18 X0 HB0
  go_wp2_with fail
  refine (K56.out _).mono ?_
  rintro e w2 ⟨rfl, rfl⟩
  have HB2 := hide (kalloc HB1.out (.cells #[.int .i64 u, .int .i64 k] 3))
  have X2 := hide (X1.out.alloc (.cells #[.int .i64 u, .int .i64 k] 3))
  clear K56 HB1 X1
  go_wp2_with fail
  refine (K20.out _ HB2.out).mono ?_
  rintro e w3 ⟨A9, c9, rfl, h9, hb⟩
  have HB3 := hide (kcall HB2.out hb)
  have X3 := hide (X2.out.bel hb)
  have H9 := hide h9
  clear K20 HB2 X2 hb h9
  go_wp2_with fail
  refine (K57.out _ _ _ H9.out).mono ?_
  rintro e w4 ⟨rfl, hb⟩
  simp only [fdY, wdC, z0, q0, Option.isSome_none, Option.getD_none, Bool.false_eq_true, if_false]
  have HB4 := hide (kcall HB3.out hb)
  have X4 := hide (X3.out.bel hb)
  clear K57 HB3 X3 hb H9
  have X := hide X4.out
  have HB := hide HB4.out
  clear X4 HB4
  have hxl := X.out.lt
  have c0 := X.out.cell (v := .int .i64 0) 0 rfl
  have t0 := X.out.thaw 0
  have c1 := X.out.cell (v := .int .i64 0) 1 rfl
  have t1 := X.out.thaw 1
  have c2 := X.out.cell (v := .int .i64 0) 2 rfl
  have t2 := X.out.thaw 2
  have c3 := X.out.cell (v := .int .i64 0) 3 rfl
  have t3 := X.out.thaw 3
  obtain ⟨wf, hwf, Xf, hBf⟩ := fourQ X.out (.int .i64 0) (.int .i64 0) (.int .i64 0) (.int .i64 0)
  have HWF := hide hwf
  have HXf := hide (Xf.alloc (.cells #[.int .i64 0, .int .i64 0, .int .i64 0, .int .i64 0, .int .i64 0, .int .i64 0] 74))
  have HBf := hide (kalloc (hBf w.heap.size w (Nat.le_refl _) HB.out) (.cells #[.int .i64 0, .int .i64 0, .int .i64 0, .int .i64 0, .int .i64 0, .int .i64 0] 74))
  clear hwf Xf hBf X HB
  go_wp2
  rw [HWF.out]
  clear HWF
  have p0 := HXf.out.cell (v := .int .i64 0) 0 rfl
  have p1 := HXf.out.cell (v := .int .i64 0) 1 rfl
  have p2 := HXf.out.cell (v := .int .i64 0) 2 rfl
  have p3 := HXf.out.cell (v := .int .i64 0) 3 rfl
  refine bodyPost_ret (v := .tuple #[.agg #[.int .i64 0, .int .i64 0, .int .i64 0, .int .i64 0], .int .i64 1]) (by simp [results, Try.results26, go_sem, p0, p1, p2, p3]) rfl ⟨by rw [HE.out]; rfl, HBf.out⟩
end Go.Proofs.Ytklndmnhhakmiaa

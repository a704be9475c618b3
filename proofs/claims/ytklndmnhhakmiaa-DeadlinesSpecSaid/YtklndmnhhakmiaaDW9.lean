/-
  deadlines: Due of the reference.
-/
import Derived.Test.YtklndmnhhakmiaaDW8
namespace Go.Proofs.Ytklndmnhhakmiaa
open Go.RowKit Go.Mine Go.Mine.B
attribute [local go_sem] Oper.semAt_some
set_option maxHeartbeats 2000000 in
theorem due27_bad (A : Option Addr) (c : Nat) (b : List Bu) (B : Option Addr) (d : Nat) (l : List Tr) (n u k : Int) (w : World) (hS : Sl buC 5 w A c b) (hT : Sl trC 7 w B d l) (hz : chk 400 b l ≠ 0) :
    Calls Try.prog 27 #[.slice A b.length c, .slice B l.length d, .int .i64 n, .int .i64 u, .int .i64 k] w (DueE (dueV 400 1 b l n u k) w) := by
  have X0 := hide ((Blk.new w #[.int .i64 0, .int .i64 0, .int .i64 0, .int .i64 0] 24).alloc (.cells #[.int .i64 0, .int .i64 0, .int .i64 0, .int .i64 0] 24))
  have Y0 := hide (Blk.new1 w (.cells #[.int .i64 0, .int .i64 0, .int .i64 0, .int .i64 0] 24) #[.int .i64 0, .int .i64 0, .int .i64 0, .int .i64 0] 24)
  have HB0 := hide (kalloc (kalloc (Below.refl w.heap.size w) (.cells #[.int .i64 0, .int .i64 0, .int .i64 0, .int .i64 0] 24)) (.cells #[.int .i64 0, .int .i64 0, .int .i64 0, .int .i64 0] 24))
  have K19 := hide (check19 A c b B d l _ (hS.bel HB0.out) (hT.bel HB0.out))
  have HE := hide (dueV_bad (n := n) (u := u) (k := k) hz)
  generalize dueV 400 1 b l n u k = R at *
  generalize chk 400 b l = z at *
  have gz : (z != 0) = true := by simpa using hz
  clear hS hT hz
  go_enter Try.func27, Try.ntmps27
  go_wp2_with fail
  refine K19.out.mono ?_
  rintro e w1 ⟨rfl, hb⟩
  have HB1 := hide (kcall HB0.out hb)
  have X := hide (X0.out.bel hb)
  have Y := hide (Y0.out.bel hb)
  clear hb K19 X0 Y0 HB0
  have HB := hide HB1.out
  clear HB1
  have hxl := X.out.lt
  have hyl := Y.out.lt
  have c0 := X.out.cell (v := .int .i64 0) 0 rfl
  have t0 := X.out.thaw 0
  have e0 := Y.out.cell (v := .int .i64 0) 0 rfl
  have c1 := X.out.cell (v := .int .i64 0) 1 rfl
  have t1 := X.out.thaw 1
  have e1 := Y.out.cell (v := .int .i64 0) 1 rfl
  have c2 := X.out.cell (v := .int .i64 0) 2 rfl
  have t2 := X.out.thaw 2
  have e2 := Y.out.cell (v := .int .i64 0) 2 rfl
  have c3 := X.out.cell (v := .int .i64 0) 3 rfl
  have t3 := X.out.thaw 3
  have e3 := Y.out.cell (v := .int .i64 0) 3 rfl
  obtain ⟨wf, hwf, Xf, hBf⟩ := fourQ X.out (.int .i64 0) (.int .i64 0) (.int .i64 0) (.int .i64 0)
  have HWF := hide hwf
  have HXf := hide Xf
  have HBf := hide (hBf w.heap.size w (Nat.le_refl _) HB.out)
  clear hwf Xf hBf X Y HB
  go_wp2
  rw [HWF.out]
  clear HWF
  have p0 := HXf.out.cell (v := .int .i64 0) 0 rfl
  have p1 := HXf.out.cell (v := .int .i64 0) 1 rfl
  have p2 := HXf.out.cell (v := .int .i64 0) 2 rfl
  have p3 := HXf.out.cell (v := .int .i64 0) 3 rfl
  refine bodyPost_ret (v := .tuple #[.agg #[.int .i64 0, .int .i64 0, .int .i64 0, .int .i64 0], .int .i64 z]) (by simp [results, Try.results27, go_sem, p0, p1, p2, p3]) rfl ⟨by rw [HE.out]; rfl, HBf.out⟩
theorem ix_none {b : List Bu} {n : Int} (h : has b n = false) : decide (ixGo (fun y : Bu => decide (y.lang = n)) b 0 < 0) = true := by
  have := ixGo_any (fun y : Bu => decide (y.lang = n)) b 0
  rw [show (b.any fun y : Bu => decide (y.lang = n)) = false from h] at this
  have h2 := of_decide_eq_false this
  simp; omega
set_option maxHeartbeats 2000000 in
theorem due27_none (A : Option Addr) (c : Nat) (b : List Bu) (B : Option Addr) (d : Nat) (l : List Tr) (n u k : Int) (w : World) (hS : Sl buC 5 w A c b) (hT : Sl trC 7 w B d l) (hz : chk 400 b l = 0) (hn : has b n = false) :
    Calls Try.prog 27 #[.slice A b.length c, .slice B l.length d, .int .i64 n, .int .i64 u, .int .i64 k] w (DueE (dueV 400 1 b l n u k) w) := by
  have X0 := hide ((Blk.new w #[.int .i64 0, .int .i64 0, .int .i64 0, .int .i64 0] 24).alloc (.cells #[.int .i64 0, .int .i64 0, .int .i64 0, .int .i64 0] 24))
  have Y0 := hide (Blk.new1 w (.cells #[.int .i64 0, .int .i64 0, .int .i64 0, .int .i64 0] 24) #[.int .i64 0, .int .i64 0, .int .i64 0, .int .i64 0] 24)
  have HB0 := hide (kalloc (kalloc (Below.refl w.heap.size w) (.cells #[.int .i64 0, .int .i64 0, .int .i64 0, .int .i64 0] 24)) (.cells #[.int .i64 0, .int .i64 0, .int .i64 0, .int .i64 0] 24))
  have K19 := hide (check19 A c b B d l _ (hS.bel HB0.out) (hT.bel HB0.out))
  rw [hz] at K19
  have K24 := hide (fun W (h : Below w.heap.size w W) => index24 A c b n W (hS.bel h))
  have HE := hide (dueV_arg (n := n) (u := u) (k := k) hz (by rw [hn, Bool.and_false]))
  have g1 := ix_none hn
  generalize ixGo (fun y : Bu => decide (y.lang = n)) b 0 = ix at *
  generalize dueV 400 1 b l n u k = R at *
  clear hS hT hz hn
  go_enter Try.func27, Try.ntmps27
  go_wp2_with fail
  refine K19.out.mono ?_
  rintro e w1 ⟨rfl, hb⟩
  have HB1 := hide (kcall HB0.out hb)
  have X := hide (X0.out.bel hb)
  have Y := hide (Y0.out.bel hb)
  clear hb K19 X0 Y0 HB0
  go_wp2_with fail
  refine (K24.out _ HB1.out).mono ?_
  rintro e w2 ⟨rfl, rfl⟩
  have HB := hide HB1.out
  clear HB1 K24
  have hxl := X.out.lt
  have hyl := Y.out.lt
  have c0 := X.out.cell (v := .int .i64 0) 0 rfl
  have t0 := X.out.thaw 0
  have e0 := Y.out.cell (v := .int .i64 0) 0 rfl
  have c1 := X.out.cell (v := .int .i64 0) 1 rfl
  have t1 := X.out.thaw 1
  have e1 := Y.out.cell (v := .int .i64 0) 1 rfl
  have c2 := X.out.cell (v := .int .i64 0) 2 rfl
  have t2 := X.out.thaw 2
  have e2 := Y.out.cell (v := .int .i64 0) 2 rfl
  have c3 := X.out.cell (v := .int .i64 0) 3 rfl
  have t3 := X.out.thaw 3
  have e3 := Y.out.cell (v := .int .i64 0) 3 rfl
  obtain ⟨wf, hwf, Xf, hBf⟩ := fourQ X.out (.int .i64 0) (.int .i64 0) (.int .i64 0) (.int .i64 0)
  have HWF := hide hwf
  have HXf := hide Xf
  have HBf := hide (hBf w.heap.size w (Nat.le_refl _) HB.out)
  clear hwf Xf hBf X Y HB
  go_wp2
  rw [HWF.out]
  clear HWF
  have p0 := HXf.out.cell (v := .int .i64 0) 0 rfl
  have p1 := HXf.out.cell (v := .int .i64 0) 1 rfl
  have p2 := HXf.out.cell (v := .int .i64 0) 2 rfl
  have p3 := HXf.out.cell (v := .int .i64 0) 3 rfl
  refine bodyPost_ret (v := .tuple #[.agg #[.int .i64 0, .int .i64 0, .int .i64 0, .int .i64 0], .int .i64 1]) (by simp [results, Try.results27, go_sem, p0, p1, p2, p3]) rfl ⟨by rw [HE.out]; rfl, HBf.out⟩
set_option maxHeartbeats 2000000 in
theorem due27_time (A : Option Addr) (c : Nat) (b : List Bu) (B : Option Addr) (d : Nat) (l : List Tr) (n u k : Int) (w : World) (hS : Sl buC 5 w A c b) (hT : Sl trC 7 w B d l) (hz : chk 400 b l = 0) (hn : has b n = true) (ht : (timeB u && timeB k) = false) :
    Calls Try.prog 27 #[.slice A b.length c, .slice B l.length d, .int .i64 n, .int .i64 u, .int .i64 k] w (DueE (dueV 400 1 b l n u k) w) := by
  have X0 := hide ((Blk.new w #[.int .i64 0, .int .i64 0, .int .i64 0, .int .i64 0] 24).alloc (.cells #[.int .i64 0, .int .i64 0, .int .i64 0, .int .i64 0] 24))
  have Y0 := hide (Blk.new1 w (.cells #[.int .i64 0, .int .i64 0, .int .i64 0, .int .i64 0] 24) #[.int .i64 0, .int .i64 0, .int .i64 0, .int .i64 0] 24)
  have HB0 := hide (kalloc (kalloc (Below.refl w.heap.size w) (.cells #[.int .i64 0, .int .i64 0, .int .i64 0, .int .i64 0] 24)) (.cells #[.int .i64 0, .int .i64 0, .int .i64 0, .int .i64 0] 24))
  have K19 := hide (check19 A c b B d l _ (hS.bel HB0.out) (hT.bel HB0.out))
  rw [hz] at K19
  obtain ⟨i, y, e1, hy, hyn⟩ := ixGo_at (l := b) (n := 0) (p := fun y : Bu => decide (y.lang = n)) hn
  rw [Nat.zero_add] at e1
  have K24 := hide (fun W (h : Below w.heap.size w W) => index24 A c b n W (hS.bel h))
  rw [e1] at K24
  have KU := hide (fun W => time59 u W)
  have KK := hide (fun W => time59 k W)
  have HE := hide (dueV_arg (n := n) (u := u) (k := k) hz (by rw [ht]; rfl))
  generalize dueV 400 1 b l n u k = R at *
  have hc : timeB u = false ∨ (timeB u = true ∧ timeB k = false) := by cases h : timeB u <;> simp_all
  generalize timeB u = ru at *
  generalize timeB k = rk at *
  clear hS hT hz hn ht e1 hy hyn
  rcases hc with rfl | ⟨rfl, rfl⟩
  all_goals
    go_enter Try.func27, Try.ntmps27
    go_wp2_with fail
    refine K19.out.mono ?_
    rintro e w1 ⟨rfl, hb⟩
    have HB1 := hide (kcall HB0.out hb)
    have X := hide (X0.out.bel hb)
    have Y := hide (Y0.out.bel hb)
    clear hb K19 X0 Y0 HB0
    go_wp2_with fail
    refine (K24.out _ HB1.out).mono ?_
    rintro e w2 ⟨rfl, rfl⟩
    have HB := hide HB1.out
    clear HB1 K24
    have hxl := X.out.lt
    have hyl := Y.out.lt
    have c0 := X.out.cell (v := .int .i64 0) 0 rfl
    have t0 := X.out.thaw 0
    have e0 := Y.out.cell (v := .int .i64 0) 0 rfl
    have c1 := X.out.cell (v := .int .i64 0) 1 rfl
    have t1 := X.out.thaw 1
    have e1 := Y.out.cell (v := .int .i64 0) 1 rfl
    have c2 := X.out.cell (v := .int .i64 0) 2 rfl
    have t2 := X.out.thaw 2
    have e2 := Y.out.cell (v := .int .i64 0) 2 rfl
    have c3 := X.out.cell (v := .int .i64 0) 3 rfl
    have t3 := X.out.thaw 3
    have e3 := Y.out.cell (v := .int .i64 0) 3 rfl
    obtain ⟨wf, hwf, Xf, hBf⟩ := fourQ X.out (.int .i64 0) (.int .i64 0) (.int .i64 0) (.int .i64 0)
    have HWF := hide hwf
    have HXf := hide Xf
    have HBf := hide (hBf w.heap.size w (Nat.le_refl _) HB.out)
    clear hwf Xf hBf X Y HB
    go_wp2_with (first | (go_at_call 59; with_reducible refine (KU.out _).mono ?_; rintro e w' ⟨rfl, rfl⟩) | (go_at_call 59; with_reducible refine (KK.out _).mono ?_; rintro e w' ⟨rfl, rfl⟩))
    rw [HWF.out]
    clear HWF
    have p0 := HXf.out.cell (v := .int .i64 0) 0 rfl
    have p1 := HXf.out.cell (v := .int .i64 0) 1 rfl
    have p2 := HXf.out.cell (v := .int .i64 0) 2 rfl
    have p3 := HXf.out.cell (v := .int .i64 0) 3 rfl
    refine bodyPost_ret (v := .tuple #[.agg #[.int .i64 0, .int .i64 0, .int .i64 0, .int .i64 0], .int .i64 1]) (by simp [results, Try.results27, go_sem, p0, p1, p2, p3]) rfl ⟨by rw [HE.out]; rfl, HBf.out⟩
end Go.Proofs.Ytklndmnhhakmiaa

/-
  deadlines: Due of the program, where it errs.
-/
import Derived.Test.YtklndmnhhakmiaaDW3
namespace Go.Proofs.Ytklndmnhhakmiaa
open Go.RowKit Go.Mine Go.Mine.B
attribute [local go_sem] Oper.semAt_some
/-- four cells of a block are stored -/
theorem fourQ {W : World} {b : Nat} {ty : TypeId} {x0 x1 x2 x3 : Value} (h : Blk W b ty #[x0, x1, x2, x3]) (v0 v1 v2 v3 : Value) :
    ∃ wf, (((W.setCell ⟨b, 0, none⟩ v0).setCell ⟨b, 1, none⟩ v1).setCell ⟨b, 2, none⟩ v2).setCell ⟨b, 3, none⟩ v3 = wf ∧ Blk wf b ty #[v0, v1, v2, v3] ∧
      (∀ (B : Nat) (A : World), B ≤ b → Below B A W → Below B A wf) :=
  ⟨_, rfl, (((h.set 0 v0 rfl).set 1 v1 rfl).set 2 v2 rfl).set 3 v3 rfl,
    fun _ _ hB hb => (((hb.setCell (p := ⟨b, 0, none⟩) hB v0).setCell (p := ⟨b, 1, none⟩) hB v1).setCell (p := ⟨b, 2, none⟩) hB v2).setCell (p := ⟨b, 3, none⟩) hB v3⟩
def DueE (r : Q × Int) (w : World) (e : Ending) (w' : World) : Prop := e = .returned (.tuple #[qV r.1, .int .i64 r.2]) ∧ Below w.heap.size w w'
theorem dueV_bad {b : List Bu} {l : List Tr} {n u k : Int} (h : chk 400 b l ≠ 0) : dueV 400 1 b l n u k = (q0, chk 400 b l) := by unfold dueV; rw [if_pos h]
theorem dueV_arg {b : List Bu} {l : List Tr} {n u k : Int} (h : chk 400 b l = 0) (h2 : (timeB u && timeB k && has b n) = false) : dueV 400 1 b l n u k = (q0, 1) := by
  unfold dueV; rw [if_neg (by simp [h]), if_neg (by simp [h2])]
theorem dueV_good {b : List Bu} {l : List Tr} {n u k : Int} (h : chk 400 b l = 0) (h2 : (timeB u && timeB k && has b n) = true) : dueV 400 1 b l n u k = (tq (stq b l n u k) u, 0) := by
  unfold dueV; rw [if_neg (by simp [h]), if_pos h2]
theorem times56_two (u k : Int) (W : World) : Calls Try.prog 56 #[.slice (some ⟨W.heap.size, 0, none⟩) 2 2] (W.alloc (.cells #[.int .i64 u, .int .i64 k] 3)) fun e w' => e = .returned (.bool (timeB u && timeB k)) ∧ W.alloc (.cells #[.int .i64 u, .int .i64 k] 3) = w' := by
  have hs : Sl ic 1 (W.alloc (.cells #[.int .i64 u, .int .i64 k] 3)) (some ⟨W.heap.size, 0, none⟩) 2 [u, k] := blit ic 1 W 3 [u, k] 2 rfl rfl (fun _ _ => rfl) rfl (by decide)
  have h := times56 (some ⟨W.heap.size, 0, none⟩) 2 [u, k] (W.alloc (.cells #[.int .i64 u, .int .i64 k] 3)) hs
  simp only [List.all_cons, List.all_nil, Bool.and_true, List.length_cons, List.length_nil, Nat.zero_add, Nat.reduceAdd] at h
  exact h
set_option maxHeartbeats 2000000 in
theorem due26_bad (A : Option Addr) (c : Nat) (b : List Bu) (B : Option Addr) (d : Nat) (l : List Tr) (n u k : Int) (w : World) (hS : Sl buC 5 w A c b) (hT : Sl trC 7 w B d l) (hI : buS b) (hJ : trS l) (hz : chk 400 b l ≠ 0) :
    Calls Try.prog 26 #[.slice A b.length c, .slice B l.length d, .int .i64 n, .int .i64 u, .int .i64 k] w (DueE (dueV 400 1 b l n u k) w) := by
  have X0 := hide (Blk.new w #[.int .i64 0, .int .i64 0, .int .i64 0, .int .i64 0] 24)
  have HB0 := hide (kalloc (Below.refl w.heap.size w) (.cells #[.int .i64 0, .int .i64 0, .int .i64 0, .int .i64 0] 24))
  have K18 := hide (check18 A c b B d l _ (hS.bel HB0.out) (hT.bel HB0.out) hI hJ)
  have HE := hide (dueV_bad (n := n) (u := u) (k := k) hz)
  generalize dueV 400 1 b l n u k = R at *
  generalize chk 400 b l = z at *
  have gz : (z != 0) = true := by simpa using hz
  clear hS hT hI hJ hz
  go_enter Try.func26, Try.ntmps26
  go_wp2_with fail
  refine K18.out.mono ?_
  rintro e w1 ⟨rfl, hb⟩
  have HB1 := hide (kcall HB0.out hb)
  have X1 := hide (X0.out.bel hb)
  clear hb K18 X0 HB0
  have X := hide X1.out
  have HB := hide HB1.out
  clear X1 HB1
  have hxl := X.out.lt
  have c0 := X.out.cell (v := .int .i64 0) 0 rfl
  have t0 := X.out.thaw 0
  have c1 := X.out.cell (v := .int .i64 0) 1 rfl
  have t1 := X.out.thaw 1
  have c2 := X.out.cell (v := .int .i64 0) 2 rfl
  have t2 := X.out.thaw 2
  have c3 := X.out.cell (v := .int .i64 0) 3 rfl
  have t3 := X.out.thaw 3
  obtain ⟨wf, hwf, Xf, hBf⟩ := fourQ X.out (.int .i64 0) (.int .i64 0) (.int .i64 0) (.int .i64 0)
  have HWF := hide hwf
  have HXf := hide Xf
  have HBf := hide (hBf w.heap.size w (Nat.le_refl _) HB.out)
  clear hwf Xf hBf X HB
  go_wp2
  rw [HWF.out]
  clear HWF
  have p0 := HXf.out.cell (v := .int .i64 0) 0 rfl
  have p1 := HXf.out.cell (v := .int .i64 0) 1 rfl
  have p2 := HXf.out.cell (v := .int .i64 0) 2 rfl
  have p3 := HXf.out.cell (v := .int .i64 0) 3 rfl
  refine bodyPost_ret (v := .tuple #[.agg #[.int .i64 0, .int .i64 0, .int .i64 0, .int .i64 0], .int .i64 z]) (by simp [results, Try.results26, go_sem, p0, p1, p2, p3]) rfl ⟨by rw [HE.out]; rfl, HBf.out⟩
set_option maxHeartbeats 2000000 in
theorem due26_time (A : Option Addr) (c : Nat) (b : List Bu) (B : Option Addr) (d : Nat) (l : List Tr) (n u k : Int) (w : World) (hS : Sl buC 5 w A c b) (hT : Sl trC 7 w B d l) (hI : buS b) (hJ : trS l) (hz : chk 400 b l = 0) (ht : (timeB u && timeB k) = false) :
    Calls Try.prog 26 #[.slice A b.length c, .slice B l.length d, .int .i64 n, .int .i64 u, .int .i64 k] w (DueE (dueV 400 1 b l n u k) w) := by
  have X0 := hide (Blk.new w #[.int .i64 0, .int .i64 0, .int .i64 0, .int .i64 0] 24)
  have HB0 := hide (kalloc (Below.refl w.heap.size w) (.cells #[.int .i64 0, .int .i64 0, .int .i64 0, .int .i64 0] 24))
  have K18 := hide (check18 A c b B d l _ (hS.bel HB0.out) (hT.bel HB0.out) hI hJ)
  rw [hz] at K18
  have K56 := hide (fun W => times56_two u k W)
  rw [ht] at K56
  have HE := hide (dueV_arg (n := n) (u := u) (k := k) hz (by rw [ht]; rfl))
  generalize dueV 400 1 b l n u k = R at *
  clear hS hT hI hJ hz ht
  go_enter Try.func26, Try.ntmps26
  go_wp2_with fail
  refine K18.out.mono ?_
  rintro e w1 ⟨rfl, hb⟩
  have HB1 := hide (kcall HB0.out hb)
  have X1 := hide (X0.out.bel hb)
  clear hb K18 X0 HB0
  go_wp2_with fail
  refine (K56.out _).mono ?_
  rintro e w2 ⟨rfl, rfl⟩
  have HB2 := hide (kalloc HB1.out (.cells #[.int .i64 u, .int .i64 k] 3))
  have X2 := hide (X1.out.alloc (.cells #[.int .i64 u, .int .i64 k] 3))
  clear K56 HB1 X1
  have X := hide X2.out
  have HB := hide HB2.out
  clear X2 HB2
  have hxl := X.out.lt
  have c0 := X.out.cell (v := .int .i64 0) 0 rfl
  have t0 := X.out.thaw 0
  have c1 := X.out.cell (v := .int .i64 0) 1 rfl
  have t1 := X.out.thaw 1
  have c2 := X.out.cell (v := .int .i64 0) 2 rfl
  have t2 := X.out.thaw 2
  have c3 := X.out.cell (v := .int .i64 0) 3 rfl
  have t3 := X.out.thaw 3
  obtain ⟨wf, hwf, Xf, hBf⟩ := fourQ X.out (.int .i64 0) (.int .i64 0) (.int .i64 0) (.int .i64 0)
  have HWF := hide hwf
  have HXf := hide Xf
  have HBf := hide (hBf w.heap.size w (Nat.le_refl _) HB.out)
  clear hwf Xf hBf X HB
  go_wp2
  rw [HWF.out]
  clear HWF
  have p0 := HXf.out.cell (v := .int .i64 0) 0 rfl
  have p1 := HXf.out.cell (v := .int .i64 0) 1 rfl
  have p2 := HXf.out.cell (v := .int .i64 0) 2 rfl
  have p3 := HXf.out.cell (v := .int .i64 0) 3 rfl
  refine bodyPost_ret (v := .tuple #[.agg #[.int .i64 0, .int .i64 0, .int .i64 0, .int .i64 0], .int .i64 1]) (by simp [results, Try.results26, go_sem, p0, p1, p2, p3]) rfl ⟨by rw [HE.out]; rfl, HBf.out⟩
end Go.Proofs.Ytklndmnhhakmiaa

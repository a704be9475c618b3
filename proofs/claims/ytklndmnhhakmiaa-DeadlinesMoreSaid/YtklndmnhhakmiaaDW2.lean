/-
  deadlines: find.
-/
import Derived.Test.YtklndmnhhakmiaaDW1
namespace Go.Proofs.Ytklndmnhhakmiaa
open Go.RowKit Go.Mine Go.Mine.B
attribute [local go_sem] Oper.semAt_some
def wdC (y : Bu) (u : Int) : List Value := [.int .i64 y.lang, .int .i64 y.q.1, .int .i64 y.q.2.1, .int .i64 y.q.2.2.1, .int .i64 y.q.2.2.2, .int .i64 u]
def z0 : Bu := ⟨0, q0⟩
def fdY (o : Option Bu) (u : Int) : Value := .agg (wdC (o.getD z0) (if o.isSome = true then u else 0)).toArray
/-- six cells of a block are stored -/
theorem six {W : World} {b : Nat} {ty : TypeId} {x0 x1 x2 x3 x4 x5 : Value} (h : Blk W b ty #[x0, x1, x2, x3, x4, x5]) (v0 v1 v2 v3 v4 v5 : Value) :
    ∃ wf, (((((W.setCell ⟨b, 0, none⟩ v0).setCell ⟨b, 1, none⟩ v1).setCell ⟨b, 2, none⟩ v2).setCell ⟨b, 3, none⟩ v3).setCell ⟨b, 4, none⟩ v4).setCell ⟨b, 5, none⟩ v5 = wf ∧ Blk wf b ty #[v0, v1, v2, v3, v4, v5] ∧
      (∀ (B : Nat) (A : World), B ≤ b → Below B A W → Below B A wf) ∧ (∀ c, c ≠ b → wf.heap[c]? = W.heap[c]?) ∧ wf.heap.size = W.heap.size :=
  ⟨_, rfl, (((((h.set 0 v0 rfl).set 1 v1 rfl).set 2 v2 rfl).set 3 v3 rfl).set 4 v4 rfl).set 5 v5 rfl,
    fun B A hB hb => (((((hb.setCell (p := ⟨b, 0, none⟩) hB v0).setCell (p := ⟨b, 1, none⟩) hB v1).setCell (p := ⟨b, 2, none⟩) hB v2).setCell (p := ⟨b, 3, none⟩) hB v3).setCell (p := ⟨b, 4, none⟩) hB v4).setCell (p := ⟨b, 5, none⟩) hB v5,
    fun c hc => by
      have e : ∀ (W : World) (i : Nat) (v : Value), (W.setCell ⟨b, i, none⟩ v).heap[c]? = W.heap[c]? := fun W i v => Below.heap_setCell _ _ _ _ hc
      rw [e, e, e, e, e, e],
    by simp [World.setCell]⟩
set_option maxHeartbeats 4000000 in
theorem find57 (A : Option Addr) (c : Nat) (b : List Bu) (n u : Int) (w : World) (hS : Sl buC 5 w A c b) :
    Calls Try.prog 57 #[.slice A b.length c, .int .i64 n, .int .i64 u] w fun e w' => e = .returned (.tuple #[fdY (b.find? fun y => decide (y.lang = n)) u, .bool (b.find? fun y => decide (y.lang = n)).isSome]) ∧ Below w.heap.size w w' := by
  have hlc := hS.le
  have hc := hS.max
  have HQ := hide (show b.find? (fun y => decide (y.lang = n)) = (b.drop 0).find? (fun y => decide (y.lang = n)) from rfl)
  generalize b.find? (fun y => decide (y.lang = n)) = o at HQ ⊢
  have HS := hide hS
  clear hS
  have X0 := hide (Blk.new w #[.int .i64 0, .int .i64 0, .int .i64 0, .int .i64 0, .int .i64 0, .int .i64 0] 74)
  have HB0 := hide (kalloc (Below.refl w.heap.size w) (.cells #[.int .i64 0, .int .i64 0, .int .i64 0, .int .i64 0, .int .i64 0, .int .i64 0] 74))
  go_enter Try.func57, Try.ntmps57
  go_wp2
  go_loopw [9, 12] (fun _ i wr => ∃ (k : Nat) (z0 z1 z2 z3 z4 z5 : Int), k ≤ b.length ∧ i = .int .i64 k ∧ Hid (o = (b.drop k).find? (fun y => decide (y.lang = n))) ∧ Hid (Blk wr w.heap.size 74 #[.int .i64 z0, .int .i64 z1, .int .i64 z2, .int .i64 z3, .int .i64 z4, .int .i64 z5]) ∧ Hid (Below w.heap.size w wr)) (fun _ i _ => b.length - (nI i).toNat)
  case atStart => exact ⟨0, 0, 0, 0, 0, 0, 0, Nat.zero_le _, rfl, HQ, X0, HB0⟩
  case round =>
    clear HQ X0 HB0
    obtain ⟨k, z0, z1, z2, z3, z4, z5, hk, rfl, HQ, X, HB⟩ := hrel
    by_cases hlt : k < b.length
    · obtain ⟨x, g, off, hx, hdr, rfl, hgw, p0, p1, p2, p3, p4⟩ := Sl.bu_at (HS.out.bel HB.out) hlt
      have kz : (k : Int) < (b.length : Int) := by omega
      have hq := HQ.out
      rw [hdr, List.find?_cons] at hq
      have hxl := X.out.lt
      obtain ⟨x1, x2, x3, x4, x5⟩ := x
      simp only at *
      have HQ2 := hide hq
      have t0 := X.out.thaw 0
      have c0 := X.out.cell (v := .int .i64 z0) 0 rfl
      have t1 := X.out.thaw 1
      have c1 := X.out.cell (v := .int .i64 z1) 1 rfl
      have t2 := X.out.thaw 2
      have c2 := X.out.cell (v := .int .i64 z2) 2 rfl
      have t3 := X.out.thaw 3
      have c3 := X.out.cell (v := .int .i64 z3) 3 rfl
      have t4 := X.out.thaw 4
      have c4 := X.out.cell (v := .int .i64 z4) 4 rfl
      have t5 := X.out.thaw 5
      have c5 := X.out.cell (v := .int .i64 z5) 5 rfl
      clear hq hx hdr HQ
      obtain ⟨wf, hwf, Xf, hBf, _, hsz⟩ := six X.out (.int .i64 x1) (.int .i64 x2) (.int .i64 x3) (.int .i64 x4) (.int .i64 x5) (.int .i64 u)
      have Xa := hide (Xf.alloc (.cells #[.int .i64 x1, .int .i64 x2, .int .i64 x3, .int .i64 x4, .int .i64 x5] 26))
      have HBa := hide (kalloc (hBf w.heap.size w (Nat.le_refl _) HB.out) (.cells #[.int .i64 x1, .int .i64 x2, .int .i64 x3, .int .i64 x4, .int .i64 x5] 26))
      have HWF := hide hwf
      clear hwf Xf hBf hsz X HB
      rcases Bool.eq_false_or_eq_true (x1 == n) with g1 | g1
      · have hq2 := HQ2.out
        rw [show decide (x1 = n) = true by simpa using g1] at hq2
        simp only at hq2
        have HQ3 := hide hq2
        clear hq2 HQ2
        (refine wp_seq_k (fun K hK => ?_); replace hK := hide hK; go_wp2_with fail; refine hK.out _ _ ?_; clear hK K)
        (refine wp_seq_k (fun K hK => ?_); replace hK := hide hK; go_wp2_with fail; refine hK.out _ _ ?_; clear hK K)
        refine wp_seq_k (fun K hK => ?_)
        replace hK := hide hK
        refine wp_block ?_
        (refine wp_seq_k (fun K hK => ?_); replace hK := hide hK; go_wp2_with fail; refine hK.out _ _ ?_; clear hK K)
        (refine wp_seq_k (fun K hK => ?_); replace hK := hide hK; go_wp2_with fail; refine hK.out _ _ ?_; clear hK K)
        rw [HWF.out]
        refine at_world (fun w6 => Blk w6 w.heap.size 74 #[.int .i64 x1, .int .i64 x2, .int .i64 x3, .int .i64 x4, .int .i64 x5, .int .i64 u] ∧ Below w.heap.size w w6) ⟨Xa.out, HBa.out⟩ ?_
        clear HWF Xa HBa c0 c1 c2 c3 c4 c5 t0 t1 t2 t3 t4 t5 p0 p1 p2 p3 p4 hxl hgw
        rintro w6 ⟨X, hB⟩
        have hxl := X.lt
        have c0 := X.cell (v := .int .i64 x1) 0 rfl
        have c1 := X.cell (v := .int .i64 x2) 1 rfl
        have c2 := X.cell (v := .int .i64 x3) 2 rfl
        have c3 := X.cell (v := .int .i64 x4) 3 rfl
        have c4 := X.cell (v := .int .i64 x5) 4 rfl
        have c5 := X.cell (v := .int .i64 u) 5 rfl
        have t0 := X.thaw 0
        have t1 := X.thaw 1
        have t2 := X.thaw 2
        have t3 := X.thaw 3
        have t4 := X.thaw 4
        have t5 := X.thaw 5
        obtain ⟨wf, hwf, Xf, hBf, _, hsz⟩ := six X (.int .i64 x1) (.int .i64 x2) (.int .i64 x3) (.int .i64 x4) (.int .i64 x5) (.int .i64 u)
        have HWF := hide hwf
        have HXf := hide Xf
        have HBf := hide (hBf w.heap.size w (Nat.le_refl _) hB)
        clear hwf Xf hBf hsz X hB
        go_wp2
        rw [HWF.out]
        clear HWF
        have p0 := HXf.out.cell (v := .int .i64 x1) 0 rfl
        have p1 := HXf.out.cell (v := .int .i64 x2) 1 rfl
        have p2 := HXf.out.cell (v := .int .i64 x3) 2 rfl
        have p3 := HXf.out.cell (v := .int .i64 x4) 3 rfl
        have p4 := HXf.out.cell (v := .int .i64 x5) 4 rfl
        have p5 := HXf.out.cell (v := .int .i64 u) 5 rfl
        have HQ4 := HQ3.out
        subst HQ4
        refine bodyPost_ret (v := .tuple #[.agg #[.int .i64 x1, .int .i64 x2, .int .i64 x3, .int .i64 x4, .int .i64 x5, .int .i64 u], .bool true]) (by simp [results, Try.results57, go_sem, p0, p1, p2, p3, p4, p5]) rfl ⟨rfl, HBf.out⟩
      · have hq2 := HQ2.out
        rw [show decide (x1 = n) = false by simpa using g1] at hq2
        simp only at hq2
        have HQ3 := hide hq2
        clear hq2 HQ2
        (refine wp_seq_k (fun K hK => ?_); replace hK := hide hK; go_wp2_with fail; refine hK.out _ _ ?_; clear hK K)
        (refine wp_seq_k (fun K hK => ?_); replace hK := hide hK; go_wp2_with fail; refine hK.out _ _ ?_; clear hK K)
        refine wp_seq_k (fun K hK => ?_)
        replace hK := hide hK
        refine wp_block ?_
        (refine wp_seq_k (fun K hK => ?_); replace hK := hide hK; go_wp2_with fail; refine hK.out _ _ ?_; clear hK K)
        (refine wp_seq_k (fun K hK => ?_); replace hK := hide hK; go_wp2_with fail; refine hK.out _ _ ?_; clear hK K)
        rw [HWF.out]
        refine at_world (fun w6 => Blk w6 w.heap.size 74 #[.int .i64 x1, .int .i64 x2, .int .i64 x3, .int .i64 x4, .int .i64 x5, .int .i64 u] ∧ Below w.heap.size w w6) ⟨Xa.out, HBa.out⟩ ?_
        clear HWF Xa HBa c0 c1 c2 c3 c4 c5 t0 t1 t2 t3 t4 t5 p0 p1 p2 p3 p4 hxl hgw
        rintro w6 ⟨X, hB⟩
        have hxl := X.lt
        have c0 := X.cell (v := .int .i64 x1) 0 rfl
        have c1 := X.cell (v := .int .i64 x2) 1 rfl
        have c2 := X.cell (v := .int .i64 x3) 2 rfl
        have c3 := X.cell (v := .int .i64 x4) 3 rfl
        have c4 := X.cell (v := .int .i64 x5) 4 rfl
        have c5 := X.cell (v := .int .i64 u) 5 rfl
        have HX := hide X
        have HB := hide hB
        clear X hB
        go_wp2_with fail
        refine hK.out _ _ ?_
        clear hK K c0 c1 c2 c3 c4 c5
        go_wp2
        go_roundw
        case rel => exact ⟨k + 1, x1, x2, x3, x4, x5, u, by omega, by go_num, HQ3, HX, HB⟩
        case measure => simp [nI]; omega
    · have hq := HQ.out
      rw [List.drop_of_length_le (by omega)] at hq
      have hq2 : o = none := hq
      subst hq2
      have t0 := X.out.thaw 0
      have c0 := X.out.cell (v := .int .i64 z0) 0 rfl
      have t1 := X.out.thaw 1
      have c1 := X.out.cell (v := .int .i64 z1) 1 rfl
      have t2 := X.out.thaw 2
      have c2 := X.out.cell (v := .int .i64 z2) 2 rfl
      have t3 := X.out.thaw 3
      have c3 := X.out.cell (v := .int .i64 z3) 3 rfl
      have t4 := X.out.thaw 4
      have c4 := X.out.cell (v := .int .i64 z4) 4 rfl
      have t5 := X.out.thaw 5
      have c5 := X.out.cell (v := .int .i64 z5) 5 rfl
      have hxl := X.out.lt
      obtain ⟨wf, hwf, Xf, hBf, _, hsz⟩ := six X.out (.int .i64 0) (.int .i64 0) (.int .i64 0) (.int .i64 0) (.int .i64 0) (.int .i64 0)
      have HWF := hide hwf
      have HXf := hide Xf
      have HBf := hide (hBf w.heap.size w (Nat.le_refl _) HB.out)
      clear hwf Xf hBf hsz X HB HQ hq
      go_wp2
      rw [HWF.out]
      clear HWF
      have p0 := HXf.out.cell (v := .int .i64 0) 0 rfl
      have p1 := HXf.out.cell (v := .int .i64 0) 1 rfl
      have p2 := HXf.out.cell (v := .int .i64 0) 2 rfl
      have p3 := HXf.out.cell (v := .int .i64 0) 3 rfl
      have p4 := HXf.out.cell (v := .int .i64 0) 4 rfl
      have p5 := HXf.out.cell (v := .int .i64 0) 5 rfl
      refine bodyPost_ret (v := .tuple #[.agg #[.int .i64 0, .int .i64 0, .int .i64 0, .int .i64 0, .int .i64 0, .int .i64 0], .bool false]) (by simp [results, Try.results57, go_sem, p0, p1, p2, p3, p4, p5]) rfl ⟨rfl, HBf.out⟩
end Go.Proofs.Ytklndmnhhakmiaa

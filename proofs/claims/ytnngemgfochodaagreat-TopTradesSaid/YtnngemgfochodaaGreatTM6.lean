/-
  deadlines: times, few.
  deadlines: find.
  deadlines: the iterator over the stages of a language.
  deadlines: Due of the program, where it errs.
  deadlines: Due of the program, where nothing is found; the word's iterator made.
  deadlines: Due of the program, where it answers.
  deadlines: Due of the program.
  deadlines: Left of the program.
-/
import Derived.Test.YtnngemgfochodaaGreatTM5
import Derived.Test.YtnngemgfochodaaGreatBase2
import Derived.LoopIn
import Derived.Test.YtnngemgfochodaaGreatRange2
namespace Go.Proofs.YtnngemgfochodaaGreat
open Go.RowKit Go.Mine Go.Mine.B
attribute [local go_sem] Oper.semAt_some
theorem times56 (C : Option Addr) (f : Nat) (ts : List Int) (w : World) (hC : Sl ic 1 w C f ts) :
    Calls Tryz.prog 28 #[.slice C ts.length f] w fun e w' => e = .returned (.bool (ts.all timeB)) ∧ w = w' := by
  have hlf := hC.le
  have hcf := hC.max
  have HE := hide (show ts.all timeB = (ts.drop 0).all timeB from rfl)
  generalize ts.all timeB = R at HE ⊢
  have HC := hide hC
  clear hC
  go_enter Tryz.func28, Tryz.ntmps28
  go_wp2
  go_loop [4, 7] (fun _ i => ∃ k : Nat, k ≤ ts.length ∧ i = .int .i64 k ∧ Hid (R = (ts.drop k).all timeB)) (fun _ i => ts.length - (nI i).toNat)
  case atStart => exact ⟨0, Nat.zero_le _, rfl, HE⟩
  case round =>
    obtain ⟨k, hk, rfl, HQ⟩ := hrel
    by_cases hlt : k < ts.length
    · obtain ⟨x, bb, off, hx, hdr, rfl, hbw, c1⟩ := Sl.ic_at HC.out hlt
      have hq := HQ.out
      rw [hdr, List.all_cons] at hq
      have HX := hide (timeB_iff (t := x))
      have HQ2 := hide hq
      clear hq HQ hx hdr HE
      rcases Bool.eq_false_or_eq_true (timeB x) with ht | ht
      · have hx1 := HX.out.1 ht
        have g1 : decide (x < 0) = false := by simp; omega
        have g2 : decide (1099511627776 ≤ x) = false := by simp; omega
        have HQ3 := hide (HQ2.out.trans (by rw [ht, Bool.true_and]))
        clear ht hx1 HQ2 HX
        go_wp2
        go_round
        case rel => exact ⟨k + 1, by omega, by go_num, HQ3⟩
        case measure => simp [nI]; omega
      · have HQ3 := hide (HQ2.out.trans (by rw [ht, Bool.false_and]))
        by_cases hx0 : x < 0
        · have g1 : decide (x < 0) = true := by simpa using hx0
          clear ht HQ2 HX
          go_wp2
          go_ret
          exact ⟨ret_bool HQ3.out.symm, rfl⟩
        · have g1 : decide (x < 0) = false := by simpa using hx0
          have g2 : decide (1099511627776 ≤ x) = true := by
            have : ¬ (0 ≤ x ∧ x < 1099511627776) := fun h => by have := HX.out.2 h; rw [ht] at this; cases this
            simp; omega
          clear ht HQ2 HX
          go_wp2
          go_ret
          exact ⟨ret_bool HQ3.out.symm, rfl⟩
    · have hq := HQ.out
      rw [List.drop_of_length_le (by omega), List.all_nil] at hq
      have HQ2 := hide hq
      clear hq HQ HE HC
      go_wp2
      go_ret
      exact ⟨ret_bool HQ2.out.symm, rfl⟩
def fewD (b : List Bu) (l : List Tr) : Bool := decide (b.length ≤ 32) && (decide (l.length ≤ 40) && decide (chk 400 b l = 0))
end Go.Proofs.YtnngemgfochodaaGreat
namespace Go.Proofs.YtnngemgfochodaaGreat
open Go.RowKit Go.Mine Go.Mine.B
attribute [local go_sem] Oper.semAt_some
def wdC (y : Bu) (u : Int) : List Value := [.int .i64 y.lang, .int .i64 y.q.1, .int .i64 y.q.2.1, .int .i64 y.q.2.2.1, .int .i64 y.q.2.2.2, .int .i64 u]
def z0 : Bu := ⟨0, q0⟩
def fdY (o : Option Bu) (u : Int) : Value := .agg (wdC (o.getD z0) (if o.isSome = true then u else 0)).toArray
/-- six cells of a block are stored -/
theorem six {W : World} {b : Nat} {ty : TypeId} {x0 x1 x2 x3 x4 x5 : Value} (h : Blk W b ty #[x0, x1, x2, x3, x4, x5]) (v0 v1 v2 v3 v4 v5 : Value) :
    ∃ wf, (((((W.setCell ⟨b, 0, none⟩ v0).setCell ⟨b, 1, none⟩ v1).setCell ⟨b, 2, none⟩ v2).setCell ⟨b, 3, none⟩ v3).setCell ⟨b, 4, none⟩ v4).setCell ⟨b, 5, none⟩ v5 = wf ∧ Blk wf b ty #[v0, v1, v2, v3, v4, v5] ∧
      (∀ (B : Nat) (A : World), B ≤ b → Below B A W → Below B A wf) ∧ (∀ c, c ≠ b → wf.heap[c]? = W.heap[c]?) ∧ wf.heap.size = W.heap.size :=
  ⟨_, rfl, (((((h.set 0 v0 rfl).set 1 v1 rfl).set 2 v2 rfl).set 3 v3 rfl).set 4 v4 rfl).set 5 v5 rfl,
    fun B A hB hb => (((((hb.setCell (p := ⟨b, 0, none⟩) hB v0).setCell (p := ⟨b, 1, none⟩) hB v1).setCell (p := ⟨b, 2, none⟩) hB v2).setCell (p := ⟨b, 3, none⟩) hB v3).setCell (p := ⟨b, 4, none⟩) hB v4).setCell (p := ⟨b, 5, none⟩) hB v5,
    fun c hc => by
      have e : ∀ (W : World) (i : Nat) (v : Value), (W.setCell ⟨b, i, none⟩ v).heap[c]? = W.heap[c]? := fun W i v => Below.heap_setCell _ _ _ _ hc
      rw [e, e, e, e, e, e],
    by simp [World.setCell]⟩
set_option maxHeartbeats 4000000 in
theorem find57 (A : Option Addr) (c : Nat) (b : List Bu) (n u : Int) (w : World) (hS : Sl buC 5 w A c b) :
    Calls Tryz.prog 29 #[.slice A b.length c, .int .i64 n, .int .i64 u] w fun e w' => e = .returned (.tuple #[fdY (b.find? fun y => decide (y.lang = n)) u, .bool (b.find? fun y => decide (y.lang = n)).isSome]) ∧ Below w.heap.size w w' := by
  have hlc := hS.le
  have hc := hS.max
  have HQ := hide (show b.find? (fun y => decide (y.lang = n)) = (b.drop 0).find? (fun y => decide (y.lang = n)) from rfl)
  generalize b.find? (fun y => decide (y.lang = n)) = o at HQ ⊢
  have HS := hide hS
  clear hS
  have X0 := hide (Blk.new w #[.int .i64 0, .int .i64 0, .int .i64 0, .int .i64 0, .int .i64 0, .int .i64 0] 63)
  have HB0 := hide (kalloc (Below.refl w.heap.size w) (.cells #[.int .i64 0, .int .i64 0, .int .i64 0, .int .i64 0, .int .i64 0, .int .i64 0] 63))
  go_enter Tryz.func29, Tryz.ntmps29
  go_wp2
  go_loopw [9, 12] (fun _ i wr => ∃ (k : Nat) (z0 z1 z2 z3 z4 z5 : Int), k ≤ b.length ∧ i = .int .i64 k ∧ Hid (o = (b.drop k).find? (fun y => decide (y.lang = n))) ∧ Hid (Blk wr w.heap.size 63 #[.int .i64 z0, .int .i64 z1, .int .i64 z2, .int .i64 z3, .int .i64 z4, .int .i64 z5]) ∧ Hid (Below w.heap.size w wr)) (fun _ i _ => b.length - (nI i).toNat)
  case atStart => exact ⟨0, 0, 0, 0, 0, 0, 0, Nat.zero_le _, rfl, HQ, X0, HB0⟩
  case round =>
    clear HQ X0 HB0
    obtain ⟨k, z0, z1, z2, z3, z4, z5, hk, rfl, HQ, X, HB⟩ := hrel
    by_cases hlt : k < b.length
    · obtain ⟨x, g, off, hx, hdr, rfl, hgw, p0, p1, p2, p3, p4⟩ := Sl.bu_at (HS.out.bel HB.out) hlt
      have kz : (k : Int) < (b.length : Int) := by omega
      have hq := HQ.out
      rw [hdr, List.find?_cons] at hq
      have hxl := X.out.lt
      obtain ⟨x1, x2, x3, x4, x5⟩ := x
      simp only at *
      have HQ2 := hide hq
      have t0 := X.out.thaw 0
      have c0 := X.out.cell (v := .int .i64 z0) 0 rfl
      have t1 := X.out.thaw 1
      have c1 := X.out.cell (v := .int .i64 z1) 1 rfl
      have t2 := X.out.thaw 2
      have c2 := X.out.cell (v := .int .i64 z2) 2 rfl
      have t3 := X.out.thaw 3
      have c3 := X.out.cell (v := .int .i64 z3) 3 rfl
      have t4 := X.out.thaw 4
      have c4 := X.out.cell (v := .int .i64 z4) 4 rfl
      have t5 := X.out.thaw 5
      have c5 := X.out.cell (v := .int .i64 z5) 5 rfl
      clear hq hx hdr HQ
      obtain ⟨wf, hwf, Xf, hBf, _, hsz⟩ := six X.out (.int .i64 x1) (.int .i64 x2) (.int .i64 x3) (.int .i64 x4) (.int .i64 x5) (.int .i64 u)
      have Xa := hide (Xf.alloc (.cells #[.int .i64 x1, .int .i64 x2, .int .i64 x3, .int .i64 x4, .int .i64 x5] 30))
      have HBa := hide (kalloc (hBf w.heap.size w (Nat.le_refl _) HB.out) (.cells #[.int .i64 x1, .int .i64 x2, .int .i64 x3, .int .i64 x4, .int .i64 x5] 30))
      have HWF := hide hwf
      clear hwf Xf hBf hsz X HB
      rcases Bool.eq_false_or_eq_true (x1 == n) with g1 | g1
      · have hq2 := HQ2.out
        rw [show decide (x1 = n) = true by simpa using g1] at hq2
        simp only at hq2
        have HQ3 := hide hq2
        clear hq2 HQ2
        (refine wp_seq_k (fun K hK => ?_); replace hK := hide hK; go_wp2_with fail; refine hK.out _ _ ?_; clear hK K)
        (refine wp_seq_k (fun K hK => ?_); replace hK := hide hK; go_wp2_with fail; refine hK.out _ _ ?_; clear hK K)
        refine wp_seq_k (fun K hK => ?_)
        replace hK := hide hK
        refine wp_block ?_
        (refine wp_seq_k (fun K hK => ?_); replace hK := hide hK; go_wp2_with fail; refine hK.out _ _ ?_; clear hK K)
        (refine wp_seq_k (fun K hK => ?_); replace hK := hide hK; go_wp2_with fail; refine hK.out _ _ ?_; clear hK K)
        rw [HWF.out]
        refine at_world (fun w6 => Blk w6 w.heap.size 63 #[.int .i64 x1, .int .i64 x2, .int .i64 x3, .int .i64 x4, .int .i64 x5, .int .i64 u] ∧ Below w.heap.size w w6) ⟨Xa.out, HBa.out⟩ ?_
        clear HWF Xa HBa c0 c1 c2 c3 c4 c5 t0 t1 t2 t3 t4 t5 p0 p1 p2 p3 p4 hxl hgw
        rintro w6 ⟨X, hB⟩
        have hxl := X.lt
        have c0 := X.cell (v := .int .i64 x1) 0 rfl
        have c1 := X.cell (v := .int .i64 x2) 1 rfl
        have c2 := X.cell (v := .int .i64 x3) 2 rfl
        have c3 := X.cell (v := .int .i64 x4) 3 rfl
        have c4 := X.cell (v := .int .i64 x5) 4 rfl
        have c5 := X.cell (v := .int .i64 u) 5 rfl
        have t0 := X.thaw 0
        have t1 := X.thaw 1
        have t2 := X.thaw 2
        have t3 := X.thaw 3
        have t4 := X.thaw 4
        have t5 := X.thaw 5
        obtain ⟨wf, hwf, Xf, hBf, _, hsz⟩ := six X (.int .i64 x1) (.int .i64 x2) (.int .i64 x3) (.int .i64 x4) (.int .i64 x5) (.int .i64 u)
        have HWF := hide hwf
        have HXf := hide Xf
        have HBf := hide (hBf w.heap.size w (Nat.le_refl _) hB)
        clear hwf Xf hBf hsz X hB
        go_wp2
        rw [HWF.out]
        clear HWF
        have p0 := HXf.out.cell (v := .int .i64 x1) 0 rfl
        have p1 := HXf.out.cell (v := .int .i64 x2) 1 rfl
        have p2 := HXf.out.cell (v := .int .i64 x3) 2 rfl
        have p3 := HXf.out.cell (v := .int .i64 x4) 3 rfl
        have p4 := HXf.out.cell (v := .int .i64 x5) 4 rfl
        have p5 := HXf.out.cell (v := .int .i64 u) 5 rfl
        have HQ4 := HQ3.out
        subst HQ4
        refine bodyPost_ret (v := .tuple #[.agg #[.int .i64 x1, .int .i64 x2, .int .i64 x3, .int .i64 x4, .int .i64 x5, .int .i64 u], .bool true]) (by simp [results, Tryz.results29, go_sem, p0, p1, p2, p3, p4, p5]) rfl ⟨rfl, HBf.out⟩
      · have hq2 := HQ2.out
        rw [show decide (x1 = n) = false by simpa using g1] at hq2
        simp only at hq2
        have HQ3 := hide hq2
        clear hq2 HQ2
        (refine wp_seq_k (fun K hK => ?_); replace hK := hide hK; go_wp2_with fail; refine hK.out _ _ ?_; clear hK K)
        (refine wp_seq_k (fun K hK => ?_); replace hK := hide hK; go_wp2_with fail; refine hK.out _ _ ?_; clear hK K)
        refine wp_seq_k (fun K hK => ?_)
        replace hK := hide hK
        refine wp_block ?_
        (refine wp_seq_k (fun K hK => ?_); replace hK := hide hK; go_wp2_with fail; refine hK.out _ _ ?_; clear hK K)
        (refine wp_seq_k (fun K hK => ?_); replace hK := hide hK; go_wp2_with fail; refine hK.out _ _ ?_; clear hK K)
        rw [HWF.out]
        refine at_world (fun w6 => Blk w6 w.heap.size 63 #[.int .i64 x1, .int .i64 x2, .int .i64 x3, .int .i64 x4, .int .i64 x5, .int .i64 u] ∧ Below w.heap.size w w6) ⟨Xa.out, HBa.out⟩ ?_
        clear HWF Xa HBa c0 c1 c2 c3 c4 c5 t0 t1 t2 t3 t4 t5 p0 p1 p2 p3 p4 hxl hgw
        rintro w6 ⟨X, hB⟩
        have hxl := X.lt
        have c0 := X.cell (v := .int .i64 x1) 0 rfl
        have c1 := X.cell (v := .int .i64 x2) 1 rfl
        have c2 := X.cell (v := .int .i64 x3) 2 rfl
        have c3 := X.cell (v := .int .i64 x4) 3 rfl
        have c4 := X.cell (v := .int .i64 x5) 4 rfl
        have c5 := X.cell (v := .int .i64 u) 5 rfl
        have HX := hide X
        have HB := hide hB
        clear X hB
        go_wp2_with fail
        refine hK.out _ _ ?_
        clear hK K c0 c1 c2 c3 c4 c5
        go_wp2
        go_roundw
        case rel => exact ⟨k + 1, x1, x2, x3, x4, x5, u, by omega, by go_num, HQ3, HX, HB⟩
        case measure => simp [nI]; omega
    · have hq := HQ.out
      rw [List.drop_of_length_le (by omega)] at hq
      have hq2 : o = none := hq
      subst hq2
      have t0 := X.out.thaw 0
      have c0 := X.out.cell (v := .int .i64 z0) 0 rfl
      have t1 := X.out.thaw 1
      have c1 := X.out.cell (v := .int .i64 z1) 1 rfl
      have t2 := X.out.thaw 2
      have c2 := X.out.cell (v := .int .i64 z2) 2 rfl
      have t3 := X.out.thaw 3
      have c3 := X.out.cell (v := .int .i64 z3) 3 rfl
      have t4 := X.out.thaw 4
      have c4 := X.out.cell (v := .int .i64 z4) 4 rfl
      have t5 := X.out.thaw 5
      have c5 := X.out.cell (v := .int .i64 z5) 5 rfl
      have hxl := X.out.lt
      obtain ⟨wf, hwf, Xf, hBf, _, hsz⟩ := six X.out (.int .i64 0) (.int .i64 0) (.int .i64 0) (.int .i64 0) (.int .i64 0) (.int .i64 0)
      have HWF := hide hwf
      have HXf := hide Xf
      have HBf := hide (hBf w.heap.size w (Nat.le_refl _) HB.out)
      clear hwf Xf hBf hsz X HB HQ hq
      go_wp2
      rw [HWF.out]
      clear HWF
      have p0 := HXf.out.cell (v := .int .i64 0) 0 rfl
      have p1 := HXf.out.cell (v := .int .i64 0) 1 rfl
      have p2 := HXf.out.cell (v := .int .i64 0) 2 rfl
      have p3 := HXf.out.cell (v := .int .i64 0) 3 rfl
      have p4 := HXf.out.cell (v := .int .i64 0) 4 rfl
      have p5 := HXf.out.cell (v := .int .i64 0) 5 rfl
      refine bodyPost_ret (v := .tuple #[.agg #[.int .i64 0, .int .i64 0, .int .i64 0, .int .i64 0, .int .i64 0, .int .i64 0], .bool false]) (by simp [results, Tryz.results29, go_sem, p0, p1, p2, p3, p4, p5]) rfl ⟨rfl, HBf.out⟩
end Go.Proofs.YtnngemgfochodaaGreat
namespace Go.Proofs.YtnngemgfochodaaGreat
open Go.RowKit Go.Mine Go.Mine.B
attribute [local go_sem] Oper.semAt_some
/-- the stages, each with its time -/
def stL (q : Q) (u : Int) : List (Int × Int) := [(0, u + path q 0), (1, u + path q 1), (2, u + path q 2), (3, u + path q 3)]
theorem stL_get (q : Q) (u : Int) {k : Nat} (hk : k < 4) : (stL q u)[k]? = some ((k : Int), u + path q (k : Int)) := by
  have h : k = 0 ∨ k = 1 ∨ k = 2 ∨ k = 3 := by omega
  rcases h with rfl | rfl | rfl | rfl <;> rfl
theorem path_psum (q : Q) (k : Nat) : path q (k : Int) = psum q (k + 1) := by
  unfold psum; rw [if_neg (by omega), show ((k + 1 : Nat) : Int) - 1 = (k : Int) by omega]
theorem idx24 (a b c d : Int) (w : World) : Sem.run Tryz.prog (Instr.index 28 (.agg #[.int .i64 a, .int .i64 b, .int .i64 c, .int .i64 d]) (.int .i64 0)) w = .ok (.int .i64 a) w ∧ Sem.run Tryz.prog (Instr.index 28 (.agg #[.int .i64 a, .int .i64 b, .int .i64 c, .int .i64 d]) (.int .i64 1)) w = .ok (.int .i64 b) w ∧ Sem.run Tryz.prog (Instr.index 28 (.agg #[.int .i64 a, .int .i64 b, .int .i64 c, .int .i64 d]) (.int .i64 2)) w = .ok (.int .i64 c) w ∧ Sem.run Tryz.prog (Instr.index 28 (.agg #[.int .i64 a, .int .i64 b, .int .i64 c, .int .i64 d]) (.int .i64 3)) w = .ok (.int .i64 d) w := by
  refine ⟨?_, ?_, ?_, ?_⟩ <;> simp [Instr.index, Sem.run_bind, run_underlying Tryz.underlying28, Result.andThen_ok, Tryz.sizeOf3, part, go_sem]
set_option maxHeartbeats 4000000 in
theorem stages66_iter (y : Bu) (u : Int) (w1 : World) (B : Nat) (X : Blk w1 B 63 (wdC y u).toArray) (hq : okQ y.q) (hu : timeB u = true) :
    Iter Tryz.prog 55 #[.pointer (some ⟨B, 0, none⟩)] ((stL y.q u).map fun s => #[.int .i64 s.1, .int .i64 s.2]) (fun x => x = B) w1 := by
  intro n lp J Jx W hw hR hJ hJx hY h0
  have hBW := (hR B rfl).2.trans X.at_
  have XW : Blk W B 63 (wdC y u).toArray := ⟨(Array.getElem?_eq_some_iff.1 hBW).1, hBW⟩
  have hu1 := timeB_iff.1 hu
  have HPB := hide (fun k => psum_ok hq k)
  have HSG := hide (fun k hk => stL_get y.q u (k := k) hk)
  have HPP := hide (fun k => path_psum y.q k)
  have HPN := hide (fun k hk => psum_next y.q (k := k) hk)
  obtain ⟨yn, q1, q2, q3, q4⟩ := y
  have HQ := hide (show ∀ k, qg (q1, q2, q3, q4) k = qg (q1, q2, q3, q4) k from fun _ => rfl)
  have c1 := XW.cell (v := .int .i64 q1) 1 rfl
  have c2 := XW.cell (v := .int .i64 q2) 2 rfl
  have c3 := XW.cell (v := .int .i64 q3) 3 rfl
  have c4 := XW.cell (v := .int .i64 q4) 4 rfl
  have c5 := XW.cell (v := .int .i64 u) 5 rfl
  have hBl := XW.lt
  have HY := hide @hY
  have HJ := hide @hJ
  have H0 := hide h0
  clear hY hJ hJx h0 hR hBW XW X hq hu
  refine callsIn_of_wp Tryz.func55 rfl trivial ?_ rfl
  simp only [Tryz.ntmps55, List.size_toArray, List.length_cons, List.length_nil, Nat.reduceAdd, Nat.reduceSub, Array.replicate_succ, Array.replicate_zero, List.push_toArray, List.append_toArray, List.nil_append, List.cons_append]
  gi_wp2
  gi_loopw [3, 4, 5, 11] (fun v _ _ i wr => ∃ (k : Nat) (O : Nat → Prop), k ≤ 4 ∧ i = .int .i64 k ∧ v = .int .i64 (u + psum (q1, q2, q3, q4) k) ∧ Hid (J k O wr) ∧ Hid (∀ x, O x → W.heap.size ≤ x ∧ x < wr.heap.size) ∧ W.heap.size ≤ wr.heap.size) (fun _ _ _ i _ => 4 - (nI i).toNat)
  case atStart => exact ⟨0, _, by omega, rfl, by simp [psum], H0, fun _ h => h.elim, Nat.le_refl _⟩
  case round =>
    obtain ⟨k, O, hk, rfl, rfl, HJ1, HO, hz⟩ := hrel
    by_cases hk4 : k < 4
    · have hY' := HY.out k _ O wr (by rw [List.getElem?_map, HSG.out k hk4]; rfl) HJ1.out HO.out hz
      have hpb := HPB.out (k + 1)
      have hpn := HPN.out k hk4
      have hkz : (k : Int) < 4 := by omega
      rw [HPP.out k] at hY'
      simp only at hpb hpn hY'
      rw [hpn] at hpb hY'
      have HPN2 := hide hpn
      clear hpn
      obtain ⟨fn, tmps, assign, body, hy, hRR⟩ := hY'
      generalize psum (q1, q2, q3, q4) k = v at *
      have hks : k = 0 ∨ k = 1 ∨ k = 2 ∨ k = 3 := by omega
      clear hkz hk hk4 HPB HSG HPP HPN HQ
      rcases hks with rfl | rfl | rfl | rfl
      · rw [show qg (q1, q2, q3, q4) ((0 : Nat) : Int) = q1 from rfl] at hy hpb HPN2
        rw [show ((0 : Nat) : Int) = 0 from rfl] at hy
        have hw2 : IntKind.i64.wrap (u + v + q1) = u + (v + q1) := by rw [IntKind.wrap_i64]; omega
        obtain ⟨i0, i1, i2, i3⟩ := idx24 q1 q2 q3 q4 wr
        have HU := hide (And.intro hu1 hpb)
        clear hu1 hpb
        gi_wp2
        refine hRR.mono ?_
        rintro e W' ⟨hK, (⟨rfl, hj'⟩ | ⟨rfl, hjx⟩)⟩
        · gi_wp2
          go_roundw
          case rel =>
            refine ⟨1, O, by omega, by go_num, by rw [HPN2.out], hj', fun x hx => ?_, Nat.le_trans hz hK.size⟩
            have := HO.out x hx; have := hK.size; omega
          case measure => simp [nI]
        · gi_wp2
          refine bodyPost_ret (results_none rfl _ _ _) rfl ?_
          exact ⟨⟨_, rfl⟩, O, fun x hx => by have := HO.out x hx; have := hK.size; omega, Nat.le_trans hz hK.size, .inr hjx⟩
      · rw [show qg (q1, q2, q3, q4) ((1 : Nat) : Int) = q2 from rfl] at hy hpb HPN2
        rw [show ((1 : Nat) : Int) = 1 from rfl] at hy
        have hw2 : IntKind.i64.wrap (u + v + q2) = u + (v + q2) := by rw [IntKind.wrap_i64]; omega
        obtain ⟨i0, i1, i2, i3⟩ := idx24 q1 q2 q3 q4 wr
        have HU := hide (And.intro hu1 hpb)
        clear hu1 hpb
        gi_wp2
        refine hRR.mono ?_
        rintro e W' ⟨hK, (⟨rfl, hj'⟩ | ⟨rfl, hjx⟩)⟩
        · gi_wp2
          go_roundw
          case rel =>
            refine ⟨2, O, by omega, by go_num, by rw [HPN2.out], hj', fun x hx => ?_, Nat.le_trans hz hK.size⟩
            have := HO.out x hx; have := hK.size; omega
          case measure => simp [nI]
        · gi_wp2
          refine bodyPost_ret (results_none rfl _ _ _) rfl ?_
          exact ⟨⟨_, rfl⟩, O, fun x hx => by have := HO.out x hx; have := hK.size; omega, Nat.le_trans hz hK.size, .inr hjx⟩
      · rw [show qg (q1, q2, q3, q4) ((2 : Nat) : Int) = q3 from rfl] at hy hpb HPN2
        rw [show ((2 : Nat) : Int) = 2 from rfl] at hy
        have hw2 : IntKind.i64.wrap (u + v + q3) = u + (v + q3) := by rw [IntKind.wrap_i64]; omega
        obtain ⟨i0, i1, i2, i3⟩ := idx24 q1 q2 q3 q4 wr
        have HU := hide (And.intro hu1 hpb)
        clear hu1 hpb
        gi_wp2
        refine hRR.mono ?_
        rintro e W' ⟨hK, (⟨rfl, hj'⟩ | ⟨rfl, hjx⟩)⟩
        · gi_wp2
          go_roundw
          case rel =>
            refine ⟨3, O, by omega, by go_num, by rw [HPN2.out], hj', fun x hx => ?_, Nat.le_trans hz hK.size⟩
            have := HO.out x hx; have := hK.size; omega
          case measure => simp [nI]
        · gi_wp2
          refine bodyPost_ret (results_none rfl _ _ _) rfl ?_
          exact ⟨⟨_, rfl⟩, O, fun x hx => by have := HO.out x hx; have := hK.size; omega, Nat.le_trans hz hK.size, .inr hjx⟩
      · rw [show qg (q1, q2, q3, q4) ((3 : Nat) : Int) = q4 from rfl] at hy hpb HPN2
        rw [show ((3 : Nat) : Int) = 3 from rfl] at hy
        have hw2 : IntKind.i64.wrap (u + v + q4) = u + (v + q4) := by rw [IntKind.wrap_i64]; omega
        obtain ⟨i0, i1, i2, i3⟩ := idx24 q1 q2 q3 q4 wr
        have HU := hide (And.intro hu1 hpb)
        clear hu1 hpb
        gi_wp2
        refine hRR.mono ?_
        rintro e W' ⟨hK, (⟨rfl, hj'⟩ | ⟨rfl, hjx⟩)⟩
        · gi_wp2
          go_roundw
          case rel =>
            refine ⟨4, O, by omega, by go_num, by rw [HPN2.out], hj', fun x hx => ?_, Nat.le_trans hz hK.size⟩
            have := HO.out x hx; have := hK.size; omega
          case measure => simp [nI]
        · gi_wp2
          refine bodyPost_ret (results_none rfl _ _ _) rfl ?_
          exact ⟨⟨_, rfl⟩, O, fun x hx => by have := HO.out x hx; have := hK.size; omega, Nat.le_trans hz hK.size, .inr hjx⟩
    · obtain rfl : k = 4 := by omega
      clear c1 c2 c3 c4 c5
      gi_wp2
      refine bodyPost_end (results_none rfl _ _ _) rfl ?_
      exact ⟨⟨_, rfl⟩, O, HO.out, hz, .inl HJ1.out⟩
end Go.Proofs.YtnngemgfochodaaGreat
namespace Go.Proofs.YtnngemgfochodaaGreat
open Go.RowKit Go.Mine Go.Mine.B
attribute [local go_sem] Oper.semAt_some
/-- four cells of a block are stored -/
theorem fourQ {W : World} {b : Nat} {ty : TypeId} {x0 x1 x2 x3 : Value} (h : Blk W b ty #[x0, x1, x2, x3]) (v0 v1 v2 v3 : Value) :
    ∃ wf, (((W.setCell ⟨b, 0, none⟩ v0).setCell ⟨b, 1, none⟩ v1).setCell ⟨b, 2, none⟩ v2).setCell ⟨b, 3, none⟩ v3 = wf ∧ Blk wf b ty #[v0, v1, v2, v3] ∧
      (∀ (B : Nat) (A : World), B ≤ b → Below B A W → Below B A wf) :=
  ⟨_, rfl, (((h.set 0 v0 rfl).set 1 v1 rfl).set 2 v2 rfl).set 3 v3 rfl,
    fun _ _ hB hb => (((hb.setCell (p := ⟨b, 0, none⟩) hB v0).setCell (p := ⟨b, 1, none⟩) hB v1).setCell (p := ⟨b, 2, none⟩) hB v2).setCell (p := ⟨b, 3, none⟩) hB v3⟩
def DueE (r : Q × Int) (w : World) (e : Ending) (w' : World) : Prop := e = .returned (.tuple #[qV r.1, .int .i64 r.2]) ∧ Below w.heap.size w w'
theorem dueV_bad {b : List Bu} {l : List Tr} {n u k : Int} (h : chk 400 b l ≠ 0) : dueV 400 1 b l n u k = (q0, chk 400 b l) := by unfold dueV; rw [if_pos h]
theorem dueV_arg {b : List Bu} {l : List Tr} {n u k : Int} (h : chk 400 b l = 0) (h2 : (timeB u && timeB k && has b n) = false) : dueV 400 1 b l n u k = (q0, 1) := by
  unfold dueV; rw [if_neg (by simp [h]), if_neg (by simp [h2])]
theorem dueV_good {b : List Bu} {l : List Tr} {n u k : Int} (h : chk 400 b l = 0) (h2 : (timeB u && timeB k && has b n) = true) : dueV 400 1 b l n u k = (tq (stq b l n u k) u, 0) := by
  unfold dueV; rw [if_neg (by simp [h]), if_pos h2]
theorem times56_two (u k : Int) (W : World) : Calls Tryz.prog 28 #[.slice (some ⟨W.heap.size, 0, none⟩) 2 2] (W.alloc (.cells #[.int .i64 u, .int .i64 k] 3)) fun e w' => e = .returned (.bool (timeB u && timeB k)) ∧ W.alloc (.cells #[.int .i64 u, .int .i64 k] 3) = w' := by
  have hs : Sl ic 1 (W.alloc (.cells #[.int .i64 u, .int .i64 k] 3)) (some ⟨W.heap.size, 0, none⟩) 2 [u, k] := blit ic 1 W 3 [u, k] 2 rfl rfl (fun _ _ => rfl) rfl (by decide)
  have h := times56 (some ⟨W.heap.size, 0, none⟩) 2 [u, k] (W.alloc (.cells #[.int .i64 u, .int .i64 k] 3)) hs
  simp only [List.all_cons, List.all_nil, Bool.and_true, List.length_cons, List.length_nil, Nat.zero_add, Nat.reduceAdd] at h
  exact h
set_option maxHeartbeats 2000000 in
theorem due26_bad (A : Option Addr) (c : Nat) (b : List Bu) (B : Option Addr) (d : Nat) (l : List Tr) (n u k : Int) (w : World) (hS : Sl buC 5 w A c b) (hT : Sl trC 7 w B d l) (hI : buS b) (hJ : trS l) (hz : chk 400 b l ≠ 0) :
    Calls Tryz.prog 10 #[.slice A b.length c, .slice B l.length d, .int .i64 n, .int .i64 u, .int .i64 k] w (DueE (dueV 400 1 b l n u k) w) := by
  have X0 := hide (Blk.new w #[.int .i64 0, .int .i64 0, .int .i64 0, .int .i64 0] 28)
  have HB0 := hide (kalloc (Below.refl w.heap.size w) (.cells #[.int .i64 0, .int .i64 0, .int .i64 0, .int .i64 0] 28))
  have K18 := hide (check18 A c b B d l _ (hS.bel HB0.out) (hT.bel HB0.out) hI hJ)
  have HE := hide (dueV_bad (n := n) (u := u) (k := k) hz)
  generalize dueV 400 1 b l n u k = R at *
  generalize chk 400 b l = z at *
  have gz : (z != 0) = true := by simpa using hz
  clear hS hT hI hJ hz
  go_enter Tryz.func10, Tryz.ntmps10
  go_wp2_with fail
  refine K18.out.mono ?_
  rintro e w1 ⟨rfl, hb⟩
  have HB1 := hide (kcall HB0.out hb)
  have X1 := hide (X0.out.bel hb)
  clear hb K18 X0 HB0
  have X := hide X1.out
  have HB := hide HB1.out
  clear X1 HB1
  have hxl := X.out.lt
  have c0 := X.out.cell (v := .int .i64 0) 0 rfl
  have t0 := X.out.thaw 0
  have c1 := X.out.cell (v := .int .i64 0) 1 rfl
  have t1 := X.out.thaw 1
  have c2 := X.out.cell (v := .int .i64 0) 2 rfl
  have t2 := X.out.thaw 2
  have c3 := X.out.cell (v := .int .i64 0) 3 rfl
  have t3 := X.out.thaw 3
  obtain ⟨wf, hwf, Xf, hBf⟩ := fourQ X.out (.int .i64 0) (.int .i64 0) (.int .i64 0) (.int .i64 0)
  have HWF := hide hwf
  have HXf := hide Xf
  have HBf := hide (hBf w.heap.size w (Nat.le_refl _) HB.out)
  clear hwf Xf hBf X HB
  go_wp2
  rw [HWF.out]
  clear HWF
  have p0 := HXf.out.cell (v := .int .i64 0) 0 rfl
  have p1 := HXf.out.cell (v := .int .i64 0) 1 rfl
  have p2 := HXf.out.cell (v := .int .i64 0) 2 rfl
  have p3 := HXf.out.cell (v := .int .i64 0) 3 rfl
  refine bodyPost_ret (v := .tuple #[.agg #[.int .i64 0, .int .i64 0, .int .i64 0, .int .i64 0], .int .i64 z]) (by simp [results, Tryz.results10, go_sem, p0, p1, p2, p3]) rfl ⟨by rw [HE.out]; rfl, HBf.out⟩
set_option maxHeartbeats 2000000 in
theorem due26_time (A : Option Addr) (c : Nat) (b : List Bu) (B : Option Addr) (d : Nat) (l : List Tr) (n u k : Int) (w : World) (hS : Sl buC 5 w A c b) (hT : Sl trC 7 w B d l) (hI : buS b) (hJ : trS l) (hz : chk 400 b l = 0) (ht : (timeB u && timeB k) = false) :
    Calls Tryz.prog 10 #[.slice A b.length c, .slice B l.length d, .int .i64 n, .int .i64 u, .int .i64 k] w (DueE (dueV 400 1 b l n u k) w) := by
  have X0 := hide (Blk.new w #[.int .i64 0, .int .i64 0, .int .i64 0, .int .i64 0] 28)
  have HB0 := hide (kalloc (Below.refl w.heap.size w) (.cells #[.int .i64 0, .int .i64 0, .int .i64 0, .int .i64 0] 28))
  have K18 := hide (check18 A c b B d l _ (hS.bel HB0.out) (hT.bel HB0.out) hI hJ)
  rw [hz] at K18
  have K56 := hide (fun W => times56_two u k W)
  rw [ht] at K56
  have HE := hide (dueV_arg (n := n) (u := u) (k := k) hz (by rw [ht]; rfl))
  generalize dueV 400 1 b l n u k = R at *
  clear hS hT hI hJ hz ht
  go_enter Tryz.func10, Tryz.ntmps10
  go_wp2_with fail
  refine K18.out.mono ?_
  rintro e w1 ⟨rfl, hb⟩
  have HB1 := hide (kcall HB0.out hb)
  have X1 := hide (X0.out.bel hb)
  clear hb K18 X0 HB0
  go_wp2_with fail
  refine (K56.out _).mono ?_
  rintro e w2 ⟨rfl, rfl⟩
  have HB2 := hide (kalloc HB1.out (.cells #[.int .i64 u, .int .i64 k] 3))
  have X2 := hide (X1.out.alloc (.cells #[.int .i64 u, .int .i64 k] 3))
  clear K56 HB1 X1
  have X := hide X2.out
  have HB := hide HB2.out
  clear X2 HB2
  have hxl := X.out.lt
  have c0 := X.out.cell (v := .int .i64 0) 0 rfl
  have t0 := X.out.thaw 0
  have c1 := X.out.cell (v := .int .i64 0) 1 rfl
  have t1 := X.out.thaw 1
  have c2 := X.out.cell (v := .int .i64 0) 2 rfl
  have t2 := X.out.thaw 2
  have c3 := X.out.cell (v := .int .i64 0) 3 rfl
  have t3 := X.out.thaw 3
  obtain ⟨wf, hwf, Xf, hBf⟩ := fourQ X.out (.int .i64 0) (.int .i64 0) (.int .i64 0) (.int .i64 0)
  have HWF := hide hwf
  have HXf := hide Xf
  have HBf := hide (hBf w.heap.size w (Nat.le_refl _) HB.out)
  clear hwf Xf hBf X HB
  go_wp2
  rw [HWF.out]
  clear HWF
  have p0 := HXf.out.cell (v := .int .i64 0) 0 rfl
  have p1 := HXf.out.cell (v := .int .i64 0) 1 rfl
  have p2 := HXf.out.cell (v := .int .i64 0) 2 rfl
  have p3 := HXf.out.cell (v := .int .i64 0) 3 rfl
  refine bodyPost_ret (v := .tuple #[.agg #[.int .i64 0, .int .i64 0, .int .i64 0, .int .i64 0], .int .i64 1]) (by simp [results, Tryz.results10, go_sem, p0, p1, p2, p3]) rfl ⟨by rw [HE.out]; rfl, HBf.out⟩
end Go.Proofs.YtnngemgfochodaaGreat
namespace Go.Proofs.YtnngemgfochodaaGreat
open Go.RowKit Go.Mine Go.Mine.B
attribute [local go_sem] Oper.semAt_some
theorem find_view (b : List Bu) (p : Pu) (n : Int) : (viewB b p).find? (fun y => decide (y.lang = n)) = if has b n = true then some ⟨n, (p n).getD q0⟩ else none := by
  induction b with
  | nil => simp [has, viewB]
  | cons y b ih =>
    have e : viewB (y :: b) p = ⟨y.lang, (p y.lang).getD q0⟩ :: viewB b p := rfl
    rw [e, List.find?_cons]
    by_cases hy : y.lang = n
    · subst hy; simp [has]
    · have h2 : has (y :: b) n = has b n := by simp [has, hy]
      rw [h2, ← ih]
      simp [hy]
theorem stages58 (y : Bu) (u : Int) (w : World) : Calls Tryz.prog 30 #[.agg (wdC y u).toArray] w fun e w' => e = .returned (.func (.func 55) #[] #[.pointer (some ⟨w.heap.size, 0, none⟩)]) ∧ w' = w.alloc (.cells (wdC y u).toArray 63) := by
  obtain ⟨y1, y2, y3, y4, y5⟩ := y
  simp only [wdC]
  go_enter Tryz.func30, Tryz.ntmps30
  go_wp2
  go_ret
  exact ⟨rfl, rfl⟩
set_option maxHeartbeats 2000000 in
theorem due26_none (A : Option Addr) (c : Nat) (b : List Bu) (B : Option Addr) (d : Nat) (l : List Tr) (n u k : Int) (w : World) (hS : Sl buC 5 w A c b) (hT : Sl trC 7 w B d l) (hI : buS b) (hJ : trS l) (hz : chk 400 b l = 0) (ht : (timeB u && timeB k) = true) (hn : has b n = false) :
    Calls Tryz.prog 10 #[.slice A b.length c, .slice B l.length d, .int .i64 n, .int .i64 u, .int .i64 k] w (DueE (dueV 400 1 b l n u k) w) := by
  have X0 := hide (Blk.new w #[.int .i64 0, .int .i64 0, .int .i64 0, .int .i64 0] 28)
  have HB0 := hide (kalloc (Below.refl w.heap.size w) (.cells #[.int .i64 0, .int .i64 0, .int .i64 0, .int .i64 0] 28))
  have K18 := hide (check18 A c b B d l _ (hS.bel HB0.out) (hT.bel HB0.out) hI hJ)
  rw [hz] at K18
  have K56 := hide (fun W => times56_two u k W)
  rw [ht] at K56
  have K20 := hide (fun W (h : Below w.heap.size w W) => standing20 A c b B d l u k W (hS.bel h) (hT.bel h) hI hJ)
  have ha := argA_of (by simp only [Bool.and_eq_true] at ht; exact ht.1) (by simp only [Bool.and_eq_true] at ht; exact ht.2)
  rw [(stand_ok hz ha).1, (stand_ok hz ha).2] at K20
  have K57 := hide (fun A9 c9 W (h9 : Sl buC 5 W A9 c9 (standing b l u k)) => find57 A9 c9 (standing b l u k) n u W h9)
  rw [show (standing b l u k).find? (fun y => decide (y.lang = n)) = none from (find_view b (fin b l u k) n).trans (if_neg (by simp [hn]))] at K57
  have HE := hide (dueV_arg (n := n) (u := u) (k := k) hz (by rw [hn, Bool.and_false]))
  generalize dueV 400 1 b l n u k = R at *
  generalize standing b l u k = L at *
  clear hS hT hI hJ hz ht ha hn
  go_enter Tryz.func10, Tryz.ntmps10
  go_wp2_with fail
  refine K18.out.mono ?_
  rintro e w1 ⟨rfl, hb⟩
  have HB1 := hide (kcall HB0.out hb)
  have X1 := hide (X0.out.bel hb)
  clear hb K18 X0 HB0
  go_wp2_with fail
  refine (K56.out _).mono ?_
  rintro e w2 ⟨rfl, rfl⟩
  have HB2 := hide (kalloc HB1.out (.cells #[.int .i64 u, .int .i64 k] 3))
  have X2 := hide (X1.out.alloc (.cells #[.int .i64 u, .int .i64 k] 3))
  clear K56 HB1 X1
  go_wp2_with fail
  refine (K20.out _ HB2.out).mono ?_
  rintro e w3 ⟨A9, c9, rfl, h9, hb⟩
  have HB3 := hide (kcall HB2.out hb)
  have X3 := hide (X2.out.bel hb)
  have H9 := hide h9
  clear K20 HB2 X2 hb h9
  go_wp2_with fail
  refine (K57.out _ _ _ H9.out).mono ?_
  rintro e w4 ⟨rfl, hb⟩
  simp only [fdY, wdC, z0, q0, Option.isSome_none, Option.getD_none, Bool.false_eq_true, if_false]
  have HB4 := hide (kcall HB3.out hb)
  have X4 := hide (X3.out.bel hb)
  clear K57 HB3 X3 hb H9
  have X := hide X4.out
  have HB := hide HB4.out
  clear X4 HB4
  have hxl := X.out.lt
  have c0 := X.out.cell (v := .int .i64 0) 0 rfl
  have t0 := X.out.thaw 0
  have c1 := X.out.cell (v := .int .i64 0) 1 rfl
  have t1 := X.out.thaw 1
  have c2 := X.out.cell (v := .int .i64 0) 2 rfl
  have t2 := X.out.thaw 2
  have c3 := X.out.cell (v := .int .i64 0) 3 rfl
  have t3 := X.out.thaw 3
  obtain ⟨wf, hwf, Xf, hBf⟩ := fourQ X.out (.int .i64 0) (.int .i64 0) (.int .i64 0) (.int .i64 0)
  have HWF := hide hwf
  have HXf := hide (Xf.alloc (.cells #[.int .i64 0, .int .i64 0, .int .i64 0, .int .i64 0, .int .i64 0, .int .i64 0] 63))
  have HBf := hide (kalloc (hBf w.heap.size w (Nat.le_refl _) HB.out) (.cells #[.int .i64 0, .int .i64 0, .int .i64 0, .int .i64 0, .int .i64 0, .int .i64 0] 63))
  clear hwf Xf hBf X HB
  go_wp2
  rw [HWF.out]
  clear HWF
  have p0 := HXf.out.cell (v := .int .i64 0) 0 rfl
  have p1 := HXf.out.cell (v := .int .i64 0) 1 rfl
  have p2 := HXf.out.cell (v := .int .i64 0) 2 rfl
  have p3 := HXf.out.cell (v := .int .i64 0) 3 rfl
  refine bodyPost_ret (v := .tuple #[.agg #[.int .i64 0, .int .i64 0, .int .i64 0, .int .i64 0], .int .i64 1]) (by simp [results, Tryz.results10, go_sem, p0, p1, p2, p3]) rfl ⟨by rw [HE.out]; rfl, HBf.out⟩
end Go.Proofs.YtnngemgfochodaaGreat
namespace Go.Proofs.YtnngemgfochodaaGreat
open Go.RowKit Go.Mine Go.Mine.B
attribute [local go_sem] Oper.semAt_some
/-- the first k times are set -/
def addT (q : Q) (u : Int) : Nat → Q
  | 0 => q0
  | s + 1 => qs (addT q u s) (s : Int) (u + path q (s : Int))
theorem addT_four (q : Q) (u : Int) : addT q u 4 = tq q u := by simp [addT, qs, tq]
set_option maxHeartbeats 4000000 in
theorem due26_good (A : Option Addr) (c : Nat) (b : List Bu) (B : Option Addr) (d : Nat) (l : List Tr) (n u k : Int) (w : World) (hS : Sl buC 5 w A c b) (hT : Sl trC 7 w B d l) (hI : buS b) (hJ : trS l) (hz : chk 400 b l = 0) (ht : (timeB u && timeB k) = true) (hn : has b n = true) :
    Calls Tryz.prog 10 #[.slice A b.length c, .slice B l.length d, .int .i64 n, .int .i64 u, .int .i64 k] w (DueE (dueV 400 1 b l n u k) w) := by
  have X0 := hide (Blk.new w #[.int .i64 0, .int .i64 0, .int .i64 0, .int .i64 0] 28)
  have HB0 := hide (kalloc (Below.refl w.heap.size w) (.cells #[.int .i64 0, .int .i64 0, .int .i64 0, .int .i64 0] 28))
  have K18 := hide (check18 A c b B d l _ (hS.bel HB0.out) (hT.bel HB0.out) hI hJ)
  rw [hz] at K18
  have K56 := hide (fun W => times56_two u k W)
  rw [ht] at K56
  have K20 := hide (fun W (h : Below w.heap.size w W) => standing20 A c b B d l u k W (hS.bel h) (hT.bel h) hI hJ)
  have ha := argA_of (by simp only [Bool.and_eq_true] at ht; exact ht.1) (by simp only [Bool.and_eq_true] at ht; exact ht.2)
  rw [(stand_ok hz ha).1, (stand_ok hz ha).2] at K20
  have K57 := hide (fun A9 c9 W (h9 : Sl buC 5 W A9 c9 (standing b l u k)) => find57 A9 c9 (standing b l u k) n u W h9)
  rw [show (standing b l u k).find? (fun y => decide (y.lang = n)) = some ⟨n, stq b l n u k⟩ from (find_view b (fin b l u k) n).trans (if_pos hn)] at K57
  have HE := hide (dueV_good (n := n) (u := u) (k := k) hz (by rw [ht, hn]; rfl))
  have hq := okQ_stq (chk_zero' hz).1 n u k
  have hu : timeB u = true := by simp only [Bool.and_eq_true] at ht; exact ht.1
  generalize dueV 400 1 b l n u k = R at *
  generalize standing b l u k = L at *
  generalize stq b l n u k = q at *
  have K58 := hide (fun W => stages58 ⟨n, q⟩ u W)
  have KI := hide (fun W B (X : Blk W B 63 (wdC ⟨n, q⟩ u).toArray) => stages66_iter ⟨n, q⟩ u W B X hq hu)
  have HG := hide (fun k (hk : k < 4) => stL_get q u hk)
  have HP := hide (fun k : Nat => path_ok hq (k : Int))
  have hmf : ∀ (fn : Fn) (first cap : Array Value) (w : World), (Instr.makeFunc fn first cap).run Tryz.prog w = .ok (.func fn first cap) w := fun _ _ _ _ => rfl
  rw [← addT_four q u] at HE
  obtain ⟨q1, q2, q3, q4⟩ := q
  simp only [wdC] at K58 KI
  clear hS hT hI hJ hz ht ha hn hq hu
  refine (callsIn_wide (n := 9)).1 (callsIn_of_wp_marks Tryz.func10 rfl trivial ?_ rfl)
  simp only [Tryz.ntmps10]
  simp only [List.size_toArray, List.length_cons, List.length_nil, Nat.reduceAdd, Nat.reduceSub, Array.replicate_succ, Array.replicate_zero, List.push_toArray, List.append_toArray, List.nil_append, List.cons_append]
  gi_wp2_with fail
  refine (callsIn_wide.2 K18.out).mono ?_
  rintro e w1 ⟨rfl, hb⟩
  have HB1 := hide (kcall HB0.out hb)
  have X1 := hide (X0.out.bel hb)
  clear hb K18 X0 HB0
  gi_wp2_with fail
  refine (callsIn_wide.2 (K56.out _)).mono ?_
  rintro e w2 ⟨rfl, rfl⟩
  have HB2 := hide (kalloc HB1.out (.cells #[.int .i64 u, .int .i64 k] 3))
  have X2 := hide (X1.out.alloc (.cells #[.int .i64 u, .int .i64 k] 3))
  clear K56 HB1 X1
  gi_wp2_with fail
  refine (callsIn_wide.2 (K20.out _ HB2.out)).mono ?_
  rintro e w3 ⟨A9, c9, rfl, h9, hb⟩
  have HB3 := hide (kcall HB2.out hb)
  have X3 := hide (X2.out.bel hb)
  have H9 := hide h9
  clear K20 HB2 X2 hb h9
  gi_wp2_with fail
  refine (callsIn_wide.2 (K57.out _ _ _ H9.out)).mono ?_
  rintro e w4 ⟨rfl, hb⟩
  simp only [fdY, wdC, Option.isSome_some, Option.getD_some, if_true]
  have HB4 := hide (kcall HB3.out hb)
  have X4 := hide (X3.out.bel hb)
  clear K57 HB3 X3 hb H9
  gi_wp2_with fail
  refine (callsIn_wide.2 (K58.out _)).mono ?_
  rintro e w6 ⟨rfl, rfl⟩
  have HB6 := hide (kalloc (kalloc HB4.out (.cells #[.int .i64 n, .int .i64 q1, .int .i64 q2, .int .i64 q3, .int .i64 q4, .int .i64 u] 63)) (.cells #[.int .i64 n, .int .i64 q1, .int .i64 q2, .int .i64 q3, .int .i64 q4, .int .i64 u] 63))
  have X6 := hide ((X4.out.alloc (.cells #[.int .i64 n, .int .i64 q1, .int .i64 q2, .int .i64 q3, .int .i64 q4, .int .i64 u] 63)).alloc (.cells #[.int .i64 n, .int .i64 q1, .int .i64 q2, .int .i64 q3, .int .i64 q4, .int .i64 u] 63))
  have XB := Blk.new1 w4 (.cells #[.int .i64 n, .int .i64 q1, .int .i64 q2, .int .i64 q3, .int .i64 q4, .int .i64 u] 63) #[.int .i64 n, .int .i64 q1, .int .i64 q2, .int .i64 q3, .int .i64 q4, .int .i64 u] 63
  have hit := KI.out _ _ XB
  have hz6 := XB.lt
  have hw4 := HB4.out.size
  clear K58 KI HB4 X4
  have hw6 := X6.out.lt
  generalize ((w4.alloc (.cells #[.int .i64 n, .int .i64 q1, .int .i64 q2, .int .i64 q3, .int .i64 q4, .int .i64 u] 63)).alloc (.cells #[.int .i64 n, .int .i64 q1, .int .i64 q2, .int .i64 q3, .int .i64 q4, .int .i64 u] 63)) = w6 at *
  gi_wp2
  refine wpIn_rangeG (gf := 55) (lb := #[.pointer (some ⟨w4.heap.size + 1, 0, none⟩)]) rfl (enters_of Tryz.func55 (by kernel_rfl) rfl) (fun s : Int × Int => #[.int .i64 s.1, .int .i64 s.2]) hit (Nat.le_refl _) (fun b hb => ⟨by subst hb; exact hz6, rfl⟩) (fun _ => rfl)
    (fun k O X => (∀ b, O b → w6.heap.size ≤ b) ∧ w6.heap.size ≤ X.heap.size ∧ Below w.heap.size w X ∧ Blk X w.heap.size 28 (qC (addT (q1, q2, q3, q4) u k)).toArray)
    (fun _ _ _ => False) ?_ (fun _ _ _ _ _ h _ => h) ?_ ?body ?done ?stop
  · rintro k O O' X X' ⟨h1, h2, h3, h4⟩ st
    exact ⟨O_step st h1 h2, Nat.le_trans h2 st.size, st.below h3 (by have := h3.size; omega) (fun b hb => by have := h1 b hb; omega), ⟨Nat.lt_of_lt_of_le h4.lt st.size, (st.keep _ h4.lt (fun h => by have := h1 _ h; omega)).trans h4.at_⟩⟩
  · exact ⟨fun b hb => hb.elim, Nat.le_refl _, HB6.out, X6.out⟩
  case body =>
    rintro lp k ⟨t, s⟩ O X hx ⟨h1, h2, h3, h4⟩ hO hz
    have hk : k < 4 := lt_of_get hx
    rw [HG.out k hk] at hx
    simp only [Option.some.injEq, Prod.mk.injEq] at hx
    obtain ⟨rfl, rfl⟩ := hx
    have hkz : (k : Int) < 4 := by omega
    have HS := hide (qC_set (addT (q1, q2, q3, q4) u k) k hk (u + path (q1, q2, q3, q4) (k : Int)))
    have HC := hide (qC_get (addT (q1, q2, q3, q4) u k) k hk)
    have HA := hide (show addT (q1, q2, q3, q4) u (k + 1) = qs (addT (q1, q2, q3, q4) u k) (k : Int) (u + path (q1, q2, q3, q4) (k : Int)) from rfl)
    generalize path (q1, q2, q3, q4) (k : Int) = v at *
    have H1 := hide h1
    have HO := hide hO
    clear hit h1 hO HE
    gi_wp2
    refine ⟨Kept.refl _ _, fun W2 st hz2 => ?_⟩
    have a3 : Below w.heap.size w W2 := st.below h3 (by have := h3.size; omega) (fun b hb => by have := H1.out b hb; omega)
    have a4 : Blk W2 w.heap.size 28 (qC (addT (q1, q2, q3, q4) u k)).toArray := ⟨Nat.lt_of_lt_of_le h4.lt st.size, (st.keep _ h4.lt (fun h => by have := H1.out _ h; omega)).trans h4.at_⟩
    have c1 := a4.cell k HC.out
    have z1 := a4.thaw k
    have hl := a4.lt
    have HR := hide (And.intro a3 a4)
    clear h3 h4 st a3 a4
    gi_wp2
    obtain ⟨a3, a4⟩ := HR.out
    refine ⟨(Kept.refl _ _).setCell _ (by rintro (h | h); (have := HO.out _ h; dsimp only at this; omega); (dsimp only at h; omega)), H1.out, by simp [World.setCell]; omega, a3.setCell (by dsimp only; omega) _, ?_⟩
    rw [HA.out]
    exact a4.set k _ HS.out
  case done =>
    rintro O X ⟨h1, h2, h3, h4⟩ hO hD hOD hz
    have h4 : Blk X w.heap.size 28 (qC (addT (q1, q2, q3, q4) u 4)).toArray := h4
    generalize addT (q1, q2, q3, q4) u 4 = r at h4 HE
    obtain ⟨r1, r2, r3, r4⟩ := r
    have hl := h4.lt
    have c0 := h4.cell (v := .int .i64 r1) 0 rfl
    have c1 := h4.cell (v := .int .i64 r2) 1 rfl
    have c2 := h4.cell (v := .int .i64 r3) 2 rfl
    have c3 := h4.cell (v := .int .i64 r4) 3 rfl
    have t0 := h4.thaw 0
    have t1 := h4.thaw 1
    have t2 := h4.thaw 2
    have t3 := h4.thaw 3
    obtain ⟨wf, hwf, Xf, hBf⟩ := fourQ (show Blk X w.heap.size 28 #[.int .i64 r1, .int .i64 r2, .int .i64 r3, .int .i64 r4] from h4) (.int .i64 r1) (.int .i64 r2) (.int .i64 r3) (.int .i64 r4)
    have hDf : wf.heap[w6.heap.size]? = some (.deferred (some [])) := by
      rw [← hwf]
      exact set_other (set_other (set_other (set_other hD (by dsimp only; omega)) (by dsimp only; omega)) (by dsimp only; omega)) (by dsimp only; omega)
    have gg : Blk (wf.putObj w6.heap.size (.deferred none)) w.heap.size 28 #[.int .i64 r1, .int .i64 r2, .int .i64 r3, .int .i64 r4] := ⟨by simp only [World.putObj_size]; exact Xf.lt, (World.putObj_heap_other (by omega)).trans Xf.at_⟩
    have HF := hide (below_put (hBf w.heap.size w (Nat.le_refl _) h3) (.deferred none) (show w.heap.size ≤ w6.heap.size by omega))
    have HWF := hide hwf
    have HGG := hide gg
    have HDF := hide hDf
    clear hit hwf Xf hBf hD h3 h4 gg hDf
    gi_wp2
    rw [HWF.out]
    have p0 := HGG.out.cell (v := .int .i64 r1) 0 rfl
    have p1 := HGG.out.cell (v := .int .i64 r2) 1 rfl
    have p2 := HGG.out.cell (v := .int .i64 r3) 2 rfl
    have p3 := HGG.out.cell (v := .int .i64 r4) 3 rfl
    exact leaves_mark1 (v := .tuple #[.agg #[.int .i64 r1, .int .i64 r2, .int .i64 r3, .int .i64 r4], .int .i64 0]) HDF.out (by simp [results, Tryz.results10, go_sem, p0, p1, p2, p3]) ⟨by rw [HE.out]; rfl, HF.out⟩
  case stop =>
    rintro c O W h
    exact h.elim
end Go.Proofs.YtnngemgfochodaaGreat
namespace Go.Proofs.YtnngemgfochodaaGreat
open Go.RowKit Go.Mine Go.Mine.B
attribute [local go_sem] Oper.semAt_some
theorem due26 (A : Option Addr) (c : Nat) (b : List Bu) (B : Option Addr) (d : Nat) (l : List Tr) (n u k : Int) (w : World) (hS : Sl buC 5 w A c b) (hT : Sl trC 7 w B d l) (hI : buS b) (hJ : trS l) :
    Calls Tryz.prog 10 #[.slice A b.length c, .slice B l.length d, .int .i64 n, .int .i64 u, .int .i64 k] w (DueE (dueV 400 1 b l n u k) w) := by
  by_cases hz : chk 400 b l = 0
  · rcases Bool.eq_false_or_eq_true (timeB u && timeB k) with ht | ht
    · rcases Bool.eq_false_or_eq_true (has b n) with hn | hn
      · exact due26_good A c b B d l n u k w hS hT hI hJ hz ht hn
      · exact due26_none A c b B d l n u k w hS hT hI hJ hz ht hn
    · exact due26_time A c b B d l n u k w hS hT hI hJ hz ht
  · exact due26_bad A c b B d l n u k w hS hT hI hJ hz
end Go.Proofs.YtnngemgfochodaaGreat
namespace Go.Proofs.YtnngemgfochodaaGreat
open Go.RowKit Go.Mine Go.Mine.B
attribute [local go_sem] Oper.semAt_some
def LeftE (r : Int × Int) (w : World) (e : Ending) (w' : World) : Prop := e = .returned (.tuple #[.int .i64 r.1, .int .i64 r.2]) ∧ Below w.heap.size w w'
theorem due_bound {b : List Bu} {l : List Tr} {n u k : Int} (h : (dueV 400 1 b l n u k).2 = 0) {s : Int} (hs : stage s) : 0 ≤ qg (dueV 400 1 b l n u k).1 s ∧ qg (dueV 400 1 b l n u k).1 s ≤ 1103806595072 := by
  by_cases hz : chk 400 b l = 0
  · rcases Bool.eq_false_or_eq_true (timeB u && timeB k && has b n) with h2 | h2
    · rw [dueV_good hz h2, qg_tq _ _ hs]
      have h3 := path_ok (okQ_stq (chk_zero' hz).1 n u k) s
      simp only [Bool.and_eq_true] at h2
      have h4 := timeB_iff.1 h2.1.1
      omega
    · rw [dueV_arg hz h2] at h; exact absurd h (by decide)
  · rw [dueV_bad hz] at h; exact absurd h hz
theorem times56_one (t : Int) (W : World) : Calls Tryz.prog 28 #[.slice (some ⟨W.heap.size, 0, none⟩) 1 1] (W.alloc (.cells #[.int .i64 t] 3)) fun e w' => e = .returned (.bool (timeB t)) ∧ W.alloc (.cells #[.int .i64 t] 3) = w' := by
  have hs : Sl ic 1 (W.alloc (.cells #[.int .i64 t] 3)) (some ⟨W.heap.size, 0, none⟩) 1 [t] := blit ic 1 W 3 [t] 1 rfl rfl (fun _ _ => rfl) rfl (by decide)
  have h := times56 (some ⟨W.heap.size, 0, none⟩) 1 [t] (W.alloc (.cells #[.int .i64 t] 3)) hs
  simp only [List.all_cons, List.all_nil, Bool.and_true, List.length_cons, List.length_nil, Nat.zero_add] at h
  exact h
set_option maxHeartbeats 2000000 in
theorem left28 (A : Option Addr) (c : Nat) (b : List Bu) (B : Option Addr) (d : Nat) (l : List Tr) (n u k s t : Int) (w : World) (hS : Sl buC 5 w A c b) (hT : Sl trC 7 w B d l) (hI : buS b) (hJ : trS l) :
    Calls Tryz.prog 11 #[.slice A b.length c, .slice B l.length d, .int .i64 n, .int .i64 u, .int .i64 k, .int .i64 s, .int .i64 t] w (LeftE (leftV 400 1 b l n u k s t) w) := by
  have K := hide (due26 A c b B d l n u k w hS hT hI hJ)
  have HL := (show leftV 400 1 b l n u k s t = if (dueV 400 1 b l n u k).2 ≠ 0 then (0, (dueV 400 1 b l n u k).2) else if (inR s 0 3 && timeB t) = true then (qg (dueV 400 1 b l n u k).1 s - t, 0) else (0, 1) from rfl)
  have HBD := hide (fun (h : (dueV 400 1 b l n u k).2 = 0) (hs : stage s) => due_bound h hs)
  generalize leftV 400 1 b l n u k s t = R at *
  generalize dueV 400 1 b l n u k = D at *
  obtain ⟨⟨q1, q2, q3, q4⟩, z⟩ := D
  simp only at HL HBD
  clear hS hT hI hJ
  by_cases hz : z = 0
  · subst hz
    rw [if_neg (by simp)] at HL
    have KT := hide (fun (W : World) (g : Nat) (hg : W.heap.size = g) => (show Calls Tryz.prog 28 #[.slice (some ⟨g, 0, none⟩) 1 1] (W.alloc (.cells #[.int .i64 t] 3)) (fun e w' => e = .returned (.bool (timeB t)) ∧ W.alloc (.cells #[.int .i64 t] 3) = w') from by subst hg; exact times56_one t W))
    have HTB := hide (timeB_iff (t := t))
    generalize timeB t = r at *
    by_cases h0 : s < 0
    · have g1 : decide (s < 0) = true := by simpa using h0
      have HE := hide (HL.trans (if_neg (by simp [inR, show ¬ 0 ≤ s by omega])))
      clear HL HBD h0
      go_enter Tryz.func11, Tryz.ntmps11
      go_wp2_with fail
      refine K.out.mono ?_
      rintro e w1 ⟨rfl, hb⟩
      have HB1 := hide hb
      clear hb K
      simp only [qV, qC]
      go_wp2
      refine bodyPost_ret (results_tmp2 rfl _ _ _) rfl ⟨by rw [HE.out]; rfl, kalloc HB1.out _⟩
    · have g1 : decide (s < 0) = false := by simpa using h0
      by_cases h1 : 4 ≤ s
      · have g2 : decide (4 ≤ s) = true := by simpa using h1
        have HE := hide (HL.trans (if_neg (by simp [inR, show ¬ s ≤ 3 by omega])))
        clear HL HBD h0 h1
        go_enter Tryz.func11, Tryz.ntmps11
        go_wp2_with fail
        refine K.out.mono ?_
        rintro e w1 ⟨rfl, hb⟩
        have HB1 := hide hb
        clear hb K
        simp only [qV, qC]
        go_wp2
        refine bodyPost_ret (results_tmp2 rfl _ _ _) rfl ⟨by rw [HE.out]; rfl, kalloc HB1.out _⟩
      · have g2 : decide (4 ≤ s) = false := by simpa using h1
        have hin : inR s 0 3 = true := inR_iff.2 ⟨by omega, by omega⟩
        rw [hin, Bool.true_and] at HL
        cases r
        · have HE := hide (HL.trans (if_neg (by simp)))
          clear HL HBD h0 h1 hin
          go_enter Tryz.func11, Tryz.ntmps11
          go_wp2_with fail
          refine K.out.mono ?_
          rintro e w1 ⟨rfl, hb⟩
          have HB1 := hide hb
          clear hb K
          simp only [qV, qC]
          go_wp2_with fail
          with_reducible refine (KT.out _ _ (World.size_alloc _ _)).mono ?_
          rintro e w2 ⟨rfl, rfl⟩
          go_wp2
          refine bodyPost_ret (results_tmp2 rfl _ _ _) rfl ⟨by rw [HE.out]; rfl, kalloc (kalloc HB1.out _) _⟩
        · have HE := hide (HL.trans (if_pos rfl))
          have hb := HBD.out rfl ⟨by omega, by omega⟩
          have ht := HTB.out.1 rfl
          have hw : IntKind.i64.wrap (qg (q1, q2, q3, q4) s - t) = qg (q1, q2, q3, q4) s - t := by rw [IntKind.wrap_i64]; omega
          have hs4 : s = 0 ∨ s = 1 ∨ s = 2 ∨ s = 3 := by omega
          clear HL HBD h0 h1 hin hb ht HTB
          rcases hs4 with rfl | rfl | rfl | rfl
          all_goals
            simp only [qg] at hw HE
            simp only [Int.reduceEq, if_true, if_false] at hw HE
            go_enter Tryz.func11, Tryz.ntmps11
            go_wp2_with fail
            refine K.out.mono ?_
            rintro e w1 ⟨rfl, hb⟩
            have HB1 := hide hb
            clear hb K
            simp only [qV, qC]
            go_wp2_with fail
            with_reducible refine (KT.out _ _ (World.size_alloc _ _)).mono ?_
            rintro e w2 ⟨rfl, rfl⟩
            go_wp2
            refine bodyPost_ret (results_tmp2 rfl _ _ _) rfl ⟨by rw [HE.out]; rfl, kalloc (kalloc HB1.out _) _⟩
  · have gz : (z != 0) = true := by simpa using hz
    have HE := hide (HL.trans (if_pos hz))
    clear HL HBD hz
    go_enter Tryz.func11, Tryz.ntmps11
    go_wp2_with fail
    refine K.out.mono ?_
    rintro e w1 ⟨rfl, hb⟩
    have HB1 := hide hb
    clear hb K
    simp only [qV, qC]
    go_wp2
    refine bodyPost_ret (results_tmp2 rfl _ _ _) rfl ⟨by rw [HE.out]; rfl, kalloc HB1.out _⟩
end Go.Proofs.YtnngemgfochodaaGreat

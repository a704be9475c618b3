/-
  QueueDenySpec, walked.
-/
import Derived.Test.YtbkokljelopcnaaJM7
namespace Go.Proofs.Ytbkokljelopcnaa
open Go.RowKit Go.Mine Go.Mine.Q
attribute [local go_sem] Oper.semAt_some
set_option maxRecDepth 100000 in
set_option maxHeartbeats 4000000 in
theorem queueDenySpec_law (A : Option Addr) (c : Nat) (l : List Jb) (f u : Int) (w : World) (hS : Sl jbC 5 w A c l) :
    Calls Try.prog 3 #[.slice A l.length c, .agg #[.int .i64 f, .int .i64 u]] w fun e w' => e = .returned (.bool true) ∧ Below w.heap.size w w' := by
  have X0 := Blk.new w #[.int .i64 f, .int .i64 u] 24
  have hb0 : Below w.heap.size w (w.alloc (.cells #[.int .i64 f, .int .i64 u] 24)) := kalloc (Below.refl _ _) _
  have HB0 := hide hb0
  have KS := hide (sane15 (w.alloc (.cells #[.int .i64 f, .int .i64 u] 24)))
  have KF := hide (fun W (h : Below w.heap.size w W) => few16 A none c 0 l [] W (hS.bel h) (Sl.nil (by decide)))
  have K1 := hide (fun W (h : Below w.heap.size w W) => deny17 A c l W (hS.bel h))
  have K2 := hide (fun W (h : Below w.heap.size w W) => deny18 A c l W (hS.bel h))
  have K3 := hide (fun W (h : Below w.heap.size w W) => refutes19 A c l f u W (hS.bel h))
  have K4 := hide (fun W (h : Below w.heap.size w W) => refutes20 A c l f u W (hS.bel h))
  unfold DenyE at K1 K2
  generalize fewB l [] = r at *
  generalize qA (denyQ l) = a at *
  generalize qB (denyQ l) = b at *
  generalize (denyQ l).isSome = ok at *
  generalize chk l = z at *
  generalize refR l f u = q at *
  obtain ⟨q1, q2⟩ := q
  simp only [List.length_nil] at KF
  clear hS hb0
  cases r
  all_goals
    go_enter Try.func3, Try.ntmps3
    go_wp2_with fail
    refine KS.out.mono ?_
    rintro e w1 ⟨rfl, hb⟩
    have HB1 := hide (kcall HB0.out hb)
    have X1 := X0.bel hb
    clear hb KS X0
    go_wp2_with (go_at_call 16; refine (KF.out _ HB1.out).mono ?_; rintro e w' ⟨rfl, rfl⟩)
  · go_ret
    exact ⟨rfl, HB1.out⟩
  · clear KF
    refine (K1.out w1 HB1.out).mono ?_
    rintro e w2 ⟨rfl, hb⟩
    have HB2 := hide (kcall HB1.out hb)
    have X2 := X1.bel hb
    clear hb K1 X1
    go_wp2_with fail
    refine (K2.out _ (kalloc HB2.out _)).mono ?_
    rintro e w3 ⟨rfl, hb⟩
    have HB3 := hide (kcall (kalloc HB2.out _) hb)
    have X3 := (X2.alloc _).bel hb
    have Y3 := (Blk.new w2 #[.int .i64 a, .int .i64 b] 24).bel hb
    have x0 := X3.cell (v := .int .i64 f) 0 rfl
    have x1 := X3.cell (v := .int .i64 u) 1 rfl
    have xl := X3.lt
    clear hb K2 X2
    go_wp2_with fail
    refine (K3.out _ (kalloc HB3.out _)).mono ?_
    rintro e w4 ⟨rfl, hb⟩
    have HB4 := hide (kcall (kalloc HB3.out _) hb)
    have X4 := (X3.alloc _).bel hb
    have Y4 := (Y3.alloc _).bel hb
    have Z4 := (Blk.new w3 #[.int .i64 a, .int .i64 b] 24).bel hb
    clear hb K3 X3 Y3 x0 x1 xl
    have x0 := X4.cell (v := .int .i64 f) 0 rfl
    have x1 := X4.cell (v := .int .i64 u) 1 rfl
    have xl := X4.lt
    go_wp2_with fail
    refine (K4.out _ HB4.out).mono ?_
    rintro e w5 ⟨rfl, hb⟩
    have HB5 := hide (kcall HB4.out hb)
    have Y5 := Y4.bel hb
    have Z5 := Z4.bel hb
    clear hb K4 X4 Y4 Z4 x0 x1 xl
    have y0 := Y5.cell (v := .int .i64 a) 0 rfl
    have y1 := Y5.cell (v := .int .i64 b) 1 rfl
    have yl := Y5.lt
    have z0 := Z5.cell (v := .int .i64 a) 0 rfl
    have z1 := Z5.cell (v := .int .i64 b) 1 rfl
    have zl := Z5.lt
    go_wp2
    go_ret
    exact ⟨rfl, HB5.out⟩
end Go.Proofs.Ytbkokljelopcnaa

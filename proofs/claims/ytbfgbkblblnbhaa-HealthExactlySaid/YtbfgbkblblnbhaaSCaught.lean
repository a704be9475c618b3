/-
  spans.caught: the deferred call that recovers an error.
-/
import Derived.Test.YtbfgbkblblnbhaaSCheck
import Derived.Recover
import Derived.RecoverIn
namespace Go.Proofs.Ytbfgbkblblnbhaa
open Go.RowKit Go.Mine Go.Mine.H Go.Mine.S

theorem wp_frame {P : Program} {c : Code} {Q : Exit → Act → World → Prop} {a a' : Act} {w : World} (h : a = a') (hw : c.wp P Q a' w) : c.wp P Q a w := by rw [h]; exact hw
theorem caught_panicking (p : Nat) (x er : Int) (older : List PanicEntry) (w : World) (hc : w.cell? ⟨p, 0, none⟩ = some (.int .i64 x)) (hz : w.frozen? ⟨p, 0, none⟩ = false) :
    CallsD Try.prog 59 #[.pointer (some ⟨p, 0, none⟩)] (.panicking ({ v := .iface 25 (.int .i64 er), recovered := false } :: older)) w fun e u' w' =>
      e = .returned (.tuple #[]) ∧ u' = .panicking ({ v := .iface 25 (.int .i64 er), recovered := true } :: older) ∧ w' = w.setCell ⟨p, 0, none⟩ (.int .i64 er) := by
  refine callsD_of_wpS Try.func59 rfl fun c₀ cs hu => ?_
  apply wpS_seq
  apply wpS_region
  simp [wpOpsS, go_sem, recoverD, hu, Try.ntmps59, Exit.thenS]
  have hneq : ∀ w : World, (binOp BinOp.neq 20 (.iface 25 (.int .i64 er)) .nilIface).run Try.prog w = .ok (.bool true) w := fun _ => by kernel_rfl
  apply wpS_seq
  apply wpS_region
  simp [wpOpsS, go_sem, hneq, Exit.thenS]
  refine wpS_cond (t := true) (by simp [Act.eval]) ?_
  simp only [if_true]
  refine wpS_of_wp ?_
  have hta : ∀ w : World, (Instr.typeAssert (.iface 25 (.int .i64 er)) 20 25 true).run Try.prog w = .ok (.tuple #[.int .i64 er, .bool true]) w := fun _ => by kernel_rfl
  refine wp_frame (a' := { tmps := #[.pointer (some ⟨p, 0, none⟩), undef, .iface 25 (.int .i64 er), undef, undef, .iface 25 (.int .i64 er), .iface 25 (.int .i64 er), .bool true, undef, undef, undef, undef, undef, undef, undef, undef, undef, undef, undef], defers := [] }) (by kernel_rfl) ?_
  replace hu := hide hu
  clear hneq
  generalize hQ : (fun (e : Exit) (a' : Act) (w' : World) => bodyPostS Try.prog Try.f59 c₀ cs _ e a' _ w') = Q
  go_wp2
  subst hQ
  exact ⟨rfl, _, rfl, .tuple #[], results_none rfl _ _ _, rfl, rfl, rfl⟩
theorem caught_idle (p : Nat) (w : World) :
    CallsD Try.prog 59 #[.pointer (some ⟨p, 0, none⟩)] .returning w fun e u' w' => e = .returned (.tuple #[]) ∧ u' = .returning ∧ w' = w := by
  refine callsD_of_wpS Try.func59 rfl fun c₀ cs hu => ?_
  apply wpS_seq
  apply wpS_region
  simp [wpOpsS, go_sem, recoverD, hu, Try.ntmps59, Exit.thenS]
  have hneq : ∀ w : World, (binOp BinOp.neq 20 .nilIface .nilIface).run Try.prog w = .ok (.bool false) w := fun _ => by kernel_rfl
  apply wpS_seq
  apply wpS_region
  simp [wpOpsS, go_sem, hneq, Exit.thenS]
  refine wpS_cond (t := false) (by simp [Act.eval]) ?_
  simp only [Bool.false_eq_true, if_false]
  refine wpS_of_wp (wp_skip ?_)
  exact ⟨rfl, .returning, by rw [← hu], .tuple #[], results_none rfl _ _ _, rfl, rfl, rfl⟩

theorem endC_ok {e : Int} (h : e = 0) : endC e = .returned (.tuple #[]) := by unfold endC; rw [if_pos h]
theorem endC_bad {e : Int} (h : e ≠ 0) : endC e = .panicked [{ v := .iface 25 (.int .i64 e), recovered := false }] := by unfold endC; rw [if_neg h]
theorem slsl_one {w : World} {A : Option Addr} {c : Nat} {l : List Sp} {b : Nat} (h : Blk w b 30 #[.slice A l.length c]) (hS : Sl bc 2 w A c l) : SlSl w b 1 [l] :=
  ⟨⟨_, h, rfl, fun k l' hk => by
    match k, hk with
    | 0, hk => simp at hk; subst hk; exact ⟨A, c, rfl, hS⟩⟩, rfl⟩
theorem slsl_two {w : World} {A A' : Option Addr} {c c' : Nat} {l l' : List Sp} {b : Nat} (h : Blk w b 30 #[.slice A l.length c, .slice A' l'.length c']) (hS : Sl bc 2 w A c l) (hS' : Sl bc 2 w A' c' l') : SlSl w b 2 [l, l'] :=
  ⟨⟨_, h, rfl, fun k x hk => by
    match k, hk with
    | 0, hk => simp at hk; subst hk; exact ⟨A, c, rfl, hS⟩
    | 1, hk => simp at hk; subst hk; exact ⟨A', c', rfl, hS'⟩⟩, rfl⟩
theorem chkAll_one (l : List Sp) : chkAll [l] = chkS l := by
  unfold chkAll; split
  · rename_i h; rw [h]; rfl
  · rfl

set_option maxHeartbeats 1000000 in
theorem sCheck_any (A : Option Addr) (c : Nat) (l : List Sp) (w : World) (hS : Sl bc 2 w A c l) :
    Calls Try.prog 35 #[.slice A l.length c] w fun e w' => e = .returned (.int .i64 (chkS l)) ∧ Below w.heap.size w w' := by
  have K := hide (fun b w (hL : SlSl w b 1 [l]) => scheck_any b 1 [l] w hL (by simp))
  rw [chkAll_one] at K
  by_cases hz : chkS l = 0
  · rw [endC_ok hz] at K
    rw [hz]
    clear hz
    go_enter_defers Try.func35, Try.ntmps35
    go_wp2_with fail
    refine (K.out _ _ (slsl_one (Blk.new1 w _ _ 30) ((hS.alloc _).alloc _))).mono ?_
    rintro e w2 ⟨rfl, hb⟩
    have hB := kcall (kalloc (kalloc (Below.refl w.heap.size w) _) _) hb
    have be := ((Blk.new w #[.int .i64 0] 25).alloc (Obj.cells #[.slice A l.length c] 30)).bel hb
    have y0 := be.cell (v := .int .i64 0) 0 rfl
    have z0 := be.thaw 0
    replace be := hide be
    clear hb
    go_wp2_with fail
    refine leaves_cons (f := 59) (args := #[.pointer (some ⟨w.heap.size, 0, none⟩)]) (by simp) (by simp [go_sem]) ?_
    refine (caught_idle _ _).mono ?_
    rintro e u' w'' ⟨rfl, rfl, rfl⟩
    exact ⟨_, by simp [results, Try.results35, go_sem, y0], rfl, hB.setCell (by dsimp only; omega) _⟩
  · rw [endC_bad hz] at K
    clear hz
    go_enter_defers Try.func35, Try.ntmps35
    go_wp2_with fail
    refine (K.out _ _ (slsl_one (Blk.new1 w _ _ 30) ((hS.alloc _).alloc _))).mono ?_
    rintro e w2 ⟨rfl, hb⟩
    have hB := kcall (kalloc (kalloc (Below.refl w.heap.size w) _) _) hb
    have be := ((Blk.new w #[.int .i64 0] 25).alloc (Obj.cells #[.slice A l.length c] 30)).bel hb
    have y0 := be.cell (v := .int .i64 0) 0 rfl
    have z0 := be.thaw 0
    replace be := hide be
    clear hb
    go_wp2_with fail
    refine leaves_cons (f := 59) (args := #[.pointer (some ⟨w.heap.size, 0, none⟩)]) (by simp) (by simp [go_sem]) ?_
    refine (caught_panicking _ 0 (chkS l) [] _ y0 z0).mono ?_
    rintro e u' w'' ⟨rfl, rfl, rfl⟩
    exact ⟨_, by simp [results, Try.results35, go_sem, y0], rfl, hB.setCell (by dsimp only; omega) _⟩
end Go.Proofs.Ytbfgbkblblnbhaa

/-
  spans.Union, Meet, Minus.
  spans.Has.
-/
import Derived.Test.YtchdoamoeccjkaaVM9
namespace Go.Proofs.Ytchdoamoeccjkaa
open Go.RowKit Go.Mine Go.Mine.S

def errS (a b : List Sp) : Int := if chkS a = 0 then chkS b else chkS a
def uniR (f : Bool → Bool → Bool) (a b : List Sp) : List Sp := if errS a b = 0 then uni f a b else []
theorem chkAll_errS (a b : List Sp) : chkAll [a, b] = errS a b := by
  unfold errS
  rw [show chkAll [a, b] = if chkS a = 0 then chkAll [b] else chkS a from rfl, chkAll_one]
theorem errS_zero {a b : List Sp} (h : errS a b = 0) : chkS a = 0 ∧ chkS b = 0 := by
  unfold errS at h
  split at h
  · exact ⟨by assumption, h⟩
  · contradiction
theorem result_bad (fv : Value) (A A' : Option Addr) (c c' : Nat) (a b : List Sp) (w : World) (hSa : Sl spc 2 w A c a) (hSb : Sl spc 2 w A' c' b) (hz : errS a b ≠ 0) (F : Nat) (hF : fv = .func (.func F) #[] #[]) :
    Calls Try.prog 74 #[.slice A a.length c, .slice A' b.length c', fv] w fun e w' => e = .panicked [{ v := .iface 25 (.int .i64 (errS a b)), recovered := false }] ∧ Below w.heap.size w w' := by
  have K60 := hide (fun bl w (hL : SlSl w bl 2 [a, b]) => scheck_any bl 2 [a, b] w hL (by simp))
  rw [chkAll_errS, endC_bad hz] at K60
  clear hz
  subst hF
  go_enter Try.func74, Try.ntmps74
  go_wp2_with fail
  refine (K60.out _ _ (slsl_two (Blk.new2 w _ _ _ 30) (((hSa.alloc _).alloc _).alloc _) (((hSb.alloc _).alloc _).alloc _))).mono ?_
  rintro e w3 ⟨rfl, hb⟩
  have hB3 := kcall (kalloc (kalloc (kalloc (Below.refl w.heap.size w) _) _) _) hb
  go_wp2_with fail
  exact ⟨rfl, rfl, hB3⟩

set_option maxHeartbeats 1000000 in
theorem s37_any (A A' : Option Addr) (c c' : Nat) (a b : List Sp) (w : World) (hSa : Sl spc 2 w A c a) (hSb : Sl spc 2 w A' c' b) (hl : errS a b = 0 → a.length + b.length ≤ 4096) :
    Calls Try.prog 43 #[.slice A a.length c, .slice A' b.length c'] w fun e w' => ∃ A2 c2, e = .returned (.tuple #[.slice A2 (uniR fOr a b).length c2, .int .i64 (errS a b)]) ∧ Sl spc 2 w' A2 c2 (uniR fOr a b) ∧ Below w.heap.size w w' := by
  by_cases hz : errS a b = 0
  · obtain ⟨za, zb⟩ := errS_zero hz
    have K := hide (fun w (hSa : Sl spc 2 w A c a) (hSb : Sl spc 2 w A' c' b) => result66_good A A' c c' a b w hSa hSb za zb (hl hz))
    have E := hide (show uniR fOr a b = uni fOr a b by unfold uniR; rw [if_pos hz])
    rw [hz]
    clear hz hl za zb
    go_enter_defers Try.func43, Try.ntmps43
    go_wp2_with fail
    refine (K.out _ (hSa.alloc _) (hSb.alloc _)).mono ?_
    rintro e w2 ⟨v, rfl, hO, hb⟩
    have hB := kcall (kalloc (Below.refl w.heap.size w) _) hb
    have be := (Blk.new w #[.int .i64 0] 25).bel hb
    have y0 := be.cell (v := .int .i64 0) 0 rfl
    have z0 := be.thaw 0
    obtain ⟨A2, c2, rfl, -⟩ := OwnL.sl hO
    have hO2 := hide (OwnL.keep (w' := w2.setCell ⟨w.heap.size, 0, none⟩ (.int .i64 0)) hO (fun g hg => Below.heap_setCell _ _ _ _ (by dsimp only; have := (hO.blk hg).1; simp at this; omega)))
    clear hb be K hO
    go_wp2_with fail
    (refine leaves_cons (f := 71) (args := #[.pointer (some ⟨w.heap.size, 0, none⟩)]) (by simp) (by simp [go_sem]) ?_)
    refine (caught_idle _ _).mono ?_
    rintro e u' w'' ⟨rfl, rfl, rfl⟩
    obtain ⟨A3, c3, hv, hS3⟩ := OwnL.sl hO2.out
    simp only [Value.slice.injEq] at hv
    obtain ⟨rfl, -, rfl⟩ := hv
    exact ⟨_, by simp [results, Try.results43, go_sem, y0]; rfl, A2, c2, by rw [E.out], by rw [E.out]; exact hS3, hB.setCell (by dsimp only; omega) _⟩
  · have K := hide (fun w (hSa : Sl spc 2 w A c a) (hSb : Sl spc 2 w A' c' b) => result_bad _ A A' c c' a b w hSa hSb hz 76 rfl)
    have E := hide (show uniR fOr a b = [] by unfold uniR; rw [if_neg hz])
    clear hz hl
    go_enter_defers Try.func43, Try.ntmps43
    go_wp2_with fail
    refine (K.out _ (hSa.alloc _) (hSb.alloc _)).mono ?_
    rintro e w2 ⟨rfl, hb⟩
    have hB := kcall (kalloc (Below.refl w.heap.size w) _) hb
    have be := (Blk.new w #[.int .i64 0] 25).bel hb
    have y0 := be.cell (v := .int .i64 0) 0 rfl
    have z0 := be.thaw 0
    clear hb be K
    go_wp2_with fail
    (refine leaves_cons (f := 71) (args := #[.pointer (some ⟨w.heap.size, 0, none⟩)]) (by simp) (by simp [go_sem]) ?_)
    refine (caught_panicking _ 0 (errS a b) [] _ y0 z0).mono ?_
    rintro e u' w'' ⟨rfl, rfl, rfl⟩
    exact ⟨_, by simp [results, Try.results43, go_sem, y0]; rfl, none, 0, by rw [E.out]; rfl, by rw [E.out]; exact Sl.nil (by omega), hB.setCell (by dsimp only; omega) _⟩

set_option maxHeartbeats 1000000 in
theorem s39_any (A A' : Option Addr) (c c' : Nat) (a b : List Sp) (w : World) (hSa : Sl spc 2 w A c a) (hSb : Sl spc 2 w A' c' b) (hl : errS a b = 0 → a.length + b.length ≤ 4096) :
    Calls Try.prog 42 #[.slice A a.length c, .slice A' b.length c'] w fun e w' => ∃ A2 c2, e = .returned (.tuple #[.slice A2 (uniR fAnd a b).length c2, .int .i64 (errS a b)]) ∧ Sl spc 2 w' A2 c2 (uniR fAnd a b) ∧ Below w.heap.size w w' := by
  by_cases hz : errS a b = 0
  · obtain ⟨za, zb⟩ := errS_zero hz
    have K := hide (fun w (hSa : Sl spc 2 w A c a) (hSb : Sl spc 2 w A' c' b) => result68_good A A' c c' a b w hSa hSb za zb (hl hz))
    have E := hide (show uniR fAnd a b = uni fAnd a b by unfold uniR; rw [if_pos hz])
    rw [hz]
    clear hz hl za zb
    go_enter_defers Try.func42, Try.ntmps42
    go_wp2_with fail
    refine (K.out _ (hSa.alloc _) (hSb.alloc _)).mono ?_
    rintro e w2 ⟨v, rfl, hO, hb⟩
    have hB := kcall (kalloc (Below.refl w.heap.size w) _) hb
    have be := (Blk.new w #[.int .i64 0] 25).bel hb
    have y0 := be.cell (v := .int .i64 0) 0 rfl
    have z0 := be.thaw 0
    obtain ⟨A2, c2, rfl, -⟩ := OwnL.sl hO
    have hO2 := hide (OwnL.keep (w' := w2.setCell ⟨w.heap.size, 0, none⟩ (.int .i64 0)) hO (fun g hg => Below.heap_setCell _ _ _ _ (by dsimp only; have := (hO.blk hg).1; simp at this; omega)))
    clear hb be K hO
    go_wp2_with fail
    (refine leaves_cons (f := 71) (args := #[.pointer (some ⟨w.heap.size, 0, none⟩)]) (by simp) (by simp [go_sem]) ?_)
    refine (caught_idle _ _).mono ?_
    rintro e u' w'' ⟨rfl, rfl, rfl⟩
    obtain ⟨A3, c3, hv, hS3⟩ := OwnL.sl hO2.out
    simp only [Value.slice.injEq] at hv
    obtain ⟨rfl, -, rfl⟩ := hv
    exact ⟨_, by simp [results, Try.results42, go_sem, y0]; rfl, A2, c2, by rw [E.out], by rw [E.out]; exact hS3, hB.setCell (by dsimp only; omega) _⟩
  · have K := hide (fun w (hSa : Sl spc 2 w A c a) (hSb : Sl spc 2 w A' c' b) => result_bad _ A A' c c' a b w hSa hSb hz 75 rfl)
    have E := hide (show uniR fAnd a b = [] by unfold uniR; rw [if_neg hz])
    clear hz hl
    go_enter_defers Try.func42, Try.ntmps42
    go_wp2_with fail
    refine (K.out _ (hSa.alloc _) (hSb.alloc _)).mono ?_
    rintro e w2 ⟨rfl, hb⟩
    have hB := kcall (kalloc (Below.refl w.heap.size w) _) hb
    have be := (Blk.new w #[.int .i64 0] 25).bel hb
    have y0 := be.cell (v := .int .i64 0) 0 rfl
    have z0 := be.thaw 0
    clear hb be K
    go_wp2_with fail
    (refine leaves_cons (f := 71) (args := #[.pointer (some ⟨w.heap.size, 0, none⟩)]) (by simp) (by simp [go_sem]) ?_)
    refine (caught_panicking _ 0 (errS a b) [] _ y0 z0).mono ?_
    rintro e u' w'' ⟨rfl, rfl, rfl⟩
    exact ⟨_, by simp [results, Try.results42, go_sem, y0]; rfl, none, 0, by rw [E.out]; rfl, by rw [E.out]; exact Sl.nil (by omega), hB.setCell (by dsimp only; omega) _⟩

end Go.Proofs.Ytchdoamoeccjkaa
namespace Go.Proofs.Ytchdoamoeccjkaa
open Go.RowKit Go.Shelf Go.Mine Go.Mine.S
attribute [local go_sem] Oper.semAt_some

def hasE (l : List Sp) (t : Int) : Int := if chkS l = 0 then if 0 ≤ t ∧ t < 1099511627776 then 0 else 1 else chkS l
def hasR (l : List Sp) (t : Int) : Bool := if chkS l = 0 ∧ 0 ≤ t ∧ t < 1099511627776 then inL l t else false

theorem caught_idleIn (p n : Nat) (w : World) :
    CallsDIn Fence.wide n Try.prog 71 #[.pointer (some ⟨p, 0, none⟩)] .returning w fun e u' w' => e = .returned (.tuple #[]) ∧ u' = .returning ∧ w' = w := by
  refine callsDIn_of_wpSIn Try.func71 rfl trivial fun c₀ cs hu => ?_
  apply wpSIn_seq
  apply wpSIn_region
  simp [wpOpsSIn, go_sem, recoverD, hu, Try.ntmps71, Exit.thenS]
  have hneq : ∀ w : World, (binOp BinOp.neq 20 .nilIface .nilIface).run Try.prog w = .ok (.bool false) w := fun _ => by kernel_rfl
  apply wpSIn_seq
  apply wpSIn_region
  simp [wpOpsSIn, go_sem, hneq, Exit.thenS]
  refine wpSIn_cond (t := false) (by simp [Act.eval]) ?_
  simp only [Bool.false_eq_true, if_false]
  refine wpSIn_of_wpIn rfl (wpIn_skip ?_)
  exact ⟨rfl, .returning, by rw [← hu], .tuple #[], results_none rfl _ _ _, rfl, rfl, rfl⟩

theorem has_bad (A : Option Addr) (c : Nat) (l : List Sp) (t : Int) (w : World) (hS : Sl spc 2 w A c l) (hz : chkS l ≠ 0) :
    Calls Try.prog 40 #[.slice A l.length c, .int .i64 t] w fun e w' => e = .returned (.tuple #[.bool false, .int .i64 (chkS l)]) ∧ Below w.heap.size w w' := by
  have K := hide (fun b w (hL : SlSl w b 1 [l]) => scheck_any b 1 [l] w hL (by simp))
  rw [chkAll_one, endC_bad hz] at K
  clear hz
  go_enter_defers Try.func40, Try.ntmps40
  go_wp2_with fail
  refine (K.out _ _ (slsl_one (Blk.new3 w _ _ _ _ 30) ((((hS.alloc _).alloc _).alloc _).alloc _))).mono ?_
  rintro e w2 ⟨rfl, hb⟩
  have hB := kcall (((kalloc (kalloc (kalloc (kalloc (Below.refl w.heap.size w) (Obj.cells #[.int .i64 t] 3)) (Obj.cells #[.bool false] 4)) (Obj.cells #[.int .i64 0] 25)) (Obj.cells #[.slice A l.length c] 30)))) hb
  have b4 := (((Blk.new1 w (Obj.cells #[.int .i64 t] 3) #[.bool false] 4).alloc (Obj.cells #[.int .i64 0] 25)).alloc (Obj.cells #[.slice A l.length c] 30)).bel hb
  have b5 := ((Blk.new2 w (Obj.cells #[.int .i64 t] 3) (Obj.cells #[.bool false] 4) #[.int .i64 0] 25).alloc (Obj.cells #[.slice A l.length c] 30)).bel hb
  have x0 := b4.cell (v := .bool false) 0 rfl
  have y0 := b5.cell (v := .int .i64 0) 0 rfl
  have z0 := b5.thaw 0
  clear hb b4 b5 K
  go_wp2_with fail
  (refine leaves_cons (f := 71) (args := #[.pointer (some ⟨w.heap.size + 2, 0, none⟩)]) (by simp) (by simp [go_sem]) ?_)
  refine (caught_panicking _ 0 (chkS l) [] _ y0 z0).mono ?_
  rintro e u' w'' ⟨rfl, rfl, rfl⟩
  exact ⟨_, by simp [results, Try.results40, go_sem, x0, y0], rfl, hB.setCell (by dsimp only; omega) _⟩
theorem has_out (A : Option Addr) (c : Nat) (l : List Sp) (t : Int) (w : World) (hS : Sl spc 2 w A c l) (hz : chkS l = 0) (ht : t < 0 ∨ (¬ t < 0 ∧ 1099511627776 ≤ t)) :
    Calls Try.prog 40 #[.slice A l.length c, .int .i64 t] w fun e w' => e = .returned (.tuple #[.bool false, .int .i64 1]) ∧ Below w.heap.size w w' := by
  have K := hide (fun b w (hL : SlSl w b 1 [l]) => scheck_any b 1 [l] w hL (by simp))
  rw [chkAll_one, endC_ok hz] at K
  clear hz
  rcases ht with ht | ⟨ht, ht2⟩
  all_goals
    go_enter_defers Try.func40, Try.ntmps40
    go_wp2_with fail
    refine (K.out _ _ (slsl_one (Blk.new3 w _ _ _ _ 30) ((((hS.alloc _).alloc _).alloc _).alloc _))).mono ?_
    rintro e w2 ⟨rfl, hb⟩
    have hB := kcall (((kalloc (kalloc (kalloc (kalloc (Below.refl w.heap.size w) (Obj.cells #[.int .i64 t] 3)) (Obj.cells #[.bool false] 4)) (Obj.cells #[.int .i64 0] 25)) (Obj.cells #[.slice A l.length c] 30)))) hb
    have b3 := ((((Blk.new w #[.int .i64 t] 3).alloc (Obj.cells #[.bool false] 4)).alloc (Obj.cells #[.int .i64 0] 25)).alloc (Obj.cells #[.slice A l.length c] 30)).bel hb
    have b4 := (((Blk.new1 w (Obj.cells #[.int .i64 t] 3) #[.bool false] 4).alloc (Obj.cells #[.int .i64 0] 25)).alloc (Obj.cells #[.slice A l.length c] 30)).bel hb
    have b5 := ((Blk.new2 w (Obj.cells #[.int .i64 t] 3) (Obj.cells #[.bool false] 4) #[.int .i64 0] 25).alloc (Obj.cells #[.slice A l.length c] 30)).bel hb
    have t0 := b3.cell (v := .int .i64 t) 0 rfl
    have x0 := b4.cell (v := .bool false) 0 rfl
    have x1 := b4.thaw 0
    have y0 := b5.cell (v := .int .i64 0) 0 rfl
    have z0 := b5.thaw 0
    clear hb b3 b4 b5 K
    go_wp2_with fail
    (refine leaves_cons (f := 71) (args := #[.pointer (some ⟨w.heap.size + 2, 0, none⟩)]) (by simp) (by simp [go_sem]) ?_)
    refine (caught_idle _ _).mono ?_
    rintro e u' w'' ⟨rfl, rfl, rfl⟩
    exact ⟨_, by simp [results, Try.results40, go_sem, x0, y0], rfl, (hB.setCell (by dsimp only; omega) _).setCell (by dsimp only; omega) _⟩

theorem bx_of {W : World} {b : Nat} {ty : TypeId} {v : Value} (h : Blk W b ty #[v]) : Bx (fun _ => False) W b ty v := .of (by simp) h.at_
theorem run_caught (p : Nat) (w : World) : (invoke (.fn (.func 71) #[]) #[.pointer (some ⟨p, 0, none⟩)]).run Try.prog w = .ok (.enter 71 #[.pointer (some ⟨p, 0, none⟩)]) w := by simp [go_sem]

theorem leaves_mark_caught {fn : Func} {tmps : Array Value} {R : Ending → World → Prop} {D p : Nat} {W : World} (hD : W.heap[D]? = some (.deferred (some [])))
    (h : ∃ v, (results fn tmps).run Try.prog (W.putObj D (.deferred none)) = .ok v (W.putObj D (.deferred none)) ∧ R (.returned v) (W.putObj D (.deferred none))) :
    LeavesInM Fence.wide 9 Try.prog fn tmps R [{ target := .collected D, args := #[] }, { target := .fn (.func 71) #[], args := #[.pointer (some ⟨p, 0, none⟩)] }] .returning W := by
  refine ⟨by simp, .inl ⟨D, _, rfl, run_takeDeferred hD, ?_⟩⟩
  refine ⟨by simp, .inr ⟨fun h => (by cases h), .func 71, #[], 71, #[.pointer (some ⟨p, 0, none⟩)], rfl, run_caught _ _, fun _ _ => trivial, (caught_idleIn p _ _).mono ?_⟩⟩
  rintro e u' w' ⟨rfl, rfl, rfl⟩
  exact h
set_option maxRecDepth 100000 in
set_option maxHeartbeats 4000000 in
theorem has_good (A : Option Addr) (c : Nat) (l : List Sp) (t : Int) (w : World) (hS : Sl spc 2 w A c l) (hz : chkS l = 0) (ht : 0 ≤ t ∧ t < 1099511627776) :
    Calls Try.prog 40 #[.slice A l.length c, .int .i64 t] w fun e w' => e = .returned (.tuple #[.bool (inL l t), .int .i64 0]) ∧ Below w.heap.size w w' := by
  have K := hide (fun b w (hL : SlSl w b 1 [l]) => scheck_any b 1 [l] w hL (by simp))
  rw [chkAll_one, endC_ok hz] at K
  obtain ⟨ga, la⟩ := chkS_good hz
  obtain ⟨t1, t2⟩ := ht
  have hcur : cur (fun x _ => x) false (st false false (ends l) (ends [])) t = inL l t := by
    have := cur_st (fun x _ => x) false false (ends l) (ends []) t (ends_sorted l _ ga) (by simp [ends])
    rw [inL_eq l _ t ga]; exact this
  clear hz
  have g1 : ¬ t < 0 := by omega
  have g2 : ¬ 1099511627776 ≤ t := by omega
  refine (callsIn_wide (n := 9)).1 (callsIn_of_wp_marks Try.func40 rfl trivial ?_ rfl)
  simp only [Try.ntmps40]
  simp only [List.size_toArray, List.length_cons, List.length_nil, Nat.reduceAdd, Nat.reduceSub, Array.replicate_succ, Array.replicate_zero, List.push_toArray, List.append_toArray, List.nil_append, List.cons_append]
  gi_wp2_with fail
  refine (callsIn_wide.2 (K.out _ _ (slsl_one (Blk.new3 w _ _ _ _ 30) ((((hS.alloc _).alloc _).alloc _).alloc _)))).mono ?_
  rintro e w3 ⟨rfl, hb⟩
  have hB := kcall (((kalloc (kalloc (kalloc (kalloc (Below.refl w.heap.size w) (Obj.cells #[.int .i64 t] 3)) (Obj.cells #[.bool false] 4)) (Obj.cells #[.int .i64 0] 25)) (Obj.cells #[.slice A l.length c] 30)))) hb
  have b3 := bx_of (((((Blk.new w #[.int .i64 t] 3).alloc (Obj.cells #[.bool false] 4)).alloc (Obj.cells #[.int .i64 0] 25)).alloc (Obj.cells #[.slice A l.length c] 30)).bel hb)
  have b4 := bx_of ((((Blk.new1 w (Obj.cells #[.int .i64 t] 3) #[.bool false] 4).alloc (Obj.cells #[.int .i64 0] 25)).alloc (Obj.cells #[.slice A l.length c] 30)).bel hb)
  have b5 := bx_of (((Blk.new2 w (Obj.cells #[.int .i64 t] 3) (Obj.cells #[.bool false] 4) #[.int .i64 0] 25).alloc (Obj.cells #[.slice A l.length c] 30)).bel hb)
  have hz3 : w.heap.size + 4 ≤ w3.heap.size := by have := hb.size; simp at this; omega
  have t0 := b3.cell
  clear hb K
  gi_wp2_with fail
  refine (callsIn_wide.2 (states_any w _ A none c 0 l [] hS (Sl.nil (by omega)) ga trivial la (by simp) hB)).mono ?_
  rintro e w5 ⟨lb', rfl, hb5, hz5, hit⟩
  have c3 := b3.bel hb5
  have c4 := b4.bel hb5
  have c5 := b5.bel hb5
  have hB5 := kcall hB hb5
  clear hb5 b3 b4 b5 hB t0
  gi_wp2
  refine wpIn_range_gen (gf := 88) (lb := lb') rfl (enters_of Try.func88 (by kernel_rfl) rfl) hit (Nat.le_refl _) (fun x hx => ⟨by rcases hx with h | h <;> omega, rfl⟩) (fun x hx => by obtain ⟨y, _, rfl⟩ := List.mem_map.1 hx; rfl)
    (fun j O W => (∀ x, O x → w3.heap.size + 2 ≤ x) ∧ w3.heap.size + 2 ≤ W.heap.size ∧ Bx O W w.heap.size 3 (.int .i64 t) ∧ (∃ ok, Bx O W (w.heap.size + 1) 4 (.bool ok) ∧ cur (fun x _ => x) ok ((st false false (ends l) (ends [])).drop j) t = inL l t) ∧ Bx O W (w.heap.size + 2) 25 (.int .i64 0) ∧ Below w.heap.size w W)
    (fun cd O W => cd = .exit 0 ∧ (∀ x, O x → w3.heap.size + 2 ≤ x) ∧ w3.heap.size + 2 ≤ W.heap.size ∧ Bx O W (w.heap.size + 1) 4 (.bool (inL l t)) ∧ Bx O W (w.heap.size + 2) 25 (.int .i64 0) ∧ Below w.heap.size w W) ?_ ?_ ?_ ?body ?done ?stop
  · rintro k O O' W W' ⟨h1, h2, h3, ⟨ok, h4, h7⟩, h5, h11⟩ s
    exact ⟨O_step s h1 h2, Nat.le_trans h2 s.size, h3.step s, ⟨ok, h4.step s, h7⟩, h5.step s, s.below h11 (by omega) (fun x hx => by have := h1 x hx; omega)⟩
  · rintro k O O' W W' ⟨h0, h1, h2, h4, h5, h11⟩ s
    exact ⟨h0, O_step s h1 h2, Nat.le_trans h2 s.size, h4.step s, h5.step s, s.below h11 (by omega) (fun x hx => by have := h1 x hx; omega)⟩
  · exact ⟨fun x hx => hx.elim, by omega, c3, ⟨false, c4, by rw [List.drop_zero]; exact hcur⟩, c5, hB5⟩
  case body =>
    rintro lp j x O W hx ⟨h1, h2, h3, ⟨ok, h4, h7⟩, h5, h11⟩ hO hz
    rw [List.getElem?_map] at hx
    obtain ⟨s, hs, rfl⟩ := Option.map_eq_some_iff.1 hx
    have hdr := drop_of_get hs
    obtain ⟨u, p, q⟩ := s
    rw [hdr, show cur (fun x _ => x) ok ((u, p, q) :: (st false false (ends l) (ends [])).drop (j + 1)) t = if u ≤ t then cur (fun x _ => x) p ((st false false (ends l) (ends [])).drop (j + 1)) t else ok from rfl] at h7
    clear hx hs hdr hit c3 c4 c5 hcur
    have H1 := hide h1
    have HO := hide hO
    clear h1 hO
    simp only [encS]
    gi_wp2
    refine ⟨(Kept.refl _ _).alloc _, fun W2 s2 hz2 => ?_⟩
    have k3 := (h3.alloc (Obj.cells #[.int .i64 u, .bool p, .bool q] 106)).step s2
    have k4 := (h4.alloc (Obj.cells #[.int .i64 u, .bool p, .bool q] 106)).step s2
    have k5 := (h5.alloc (Obj.cells #[.int .i64 u, .bool p, .bool q] 106)).step s2
    have k11 := s2.below (h11.alloc (by omega) (Obj.cells #[.int .i64 u, .bool p, .bool q] 106)) (by simp; omega) (fun x hx => by have := H1.out x hx; omega)
    have k8 : Blk W2 W.heap.size 106 #[.int .i64 u, .bool p, .bool q] := ⟨by rw [hz2]; simp, (s2.keep _ (by simp) (fun h => by have := (HO.out _ h).2; omega)).trans (heap_new _ _)⟩
    have d0 := k8.cell (v := .int .i64 u) 0 rfl
    have d1 := k8.cell (v := .bool p) 1 rfl
    have d3 := k3.cell
    have d4 := k4.cell
    have e4 := k4.frozen
    have hW2 : w3.heap.size + 2 ≤ W2.heap.size := by rw [hz2]; simp; omega
    have hlt8 := k8.lt
    clear h3 h4 h5 h11 s2 hz2 hB5 hz5
    by_cases hut : u ≤ t
    · rw [if_pos hut] at h7
      have H7 := hide h7
      have g3 : decide (t < u) = false := by simp; omega
      clear h7
      gi_wp2
      exact ⟨(Kept.refl _ _).setCell _ (by rintro (h | h | h); exact k4.no h; dsimp only at h; omega; dsimp only at h; omega), H1.out, by simp [World.setCell]; omega, k3.far _ (by dsimp only; omega), ⟨p, k4.set _, H7.out⟩, k5.far _ (by dsimp only; omega), k11.setCell (by dsimp only; omega) _⟩
    · rw [if_neg hut] at h7
      have g3 : decide (t < u) = true := by simp; omega
      subst h7
      gi_wp2
      exact ⟨Kept.refl _ _, rfl, H1.out, hW2, k4, k5, k11⟩
  case done =>
    rintro O W ⟨h1, h2, h3, ⟨ok, h4, h7⟩, h5, h11⟩ hO hD hOD hz
    rw [List.length_map, List.drop_of_length_le (Nat.le_refl _)] at h7
    obtain rfl : ok = inL l t := h7
    have d4 := h4.cell
    have e4 := h4.frozen
    have d5 := h5.cell
    have e5 := h5.frozen
    clear hit c3 c4 c5 hcur
    gi_wp2
    refine leaves_mark_caught (D := w5.heap.size) (set_other (set_other hD (by dsimp only; omega)) (by dsimp only; omega)) ?_
    have g4 := ((h4.set (.bool (inL l t))).far (p := ⟨w.heap.size + 2, 0, none⟩) (.int .i64 0) (by dsimp only; omega)).put (D := w5.heap.size) (.deferred none) (by omega)
    have g5 := ((h5.far (p := ⟨w.heap.size + 1, 0, none⟩) (.bool (inL l t)) (by dsimp only; omega)).set (.int .i64 0)).put (D := w5.heap.size) (.deferred none) (by omega)
    have c4' := g4.cell
    have c5' := g5.cell
    exact ⟨_, by simp [results, Try.results40, go_sem, c4', c5'], rfl, below_put ((h11.setCell (by dsimp only; omega) _).setCell (by dsimp only; omega) _) _ (by omega)⟩
  case stop =>
    rintro cd O W ⟨rfl, h1, h2, h4, h5, h11⟩ hO hD hOD hz
    have d4 := h4.cell
    have e4 := h4.frozen
    have d5 := h5.cell
    have e5 := h5.frozen
    clear hit c3 c4 c5 hcur
    gi_wp2
    refine leaves_mark_caught (D := w5.heap.size) (set_other (set_other hD (by dsimp only; omega)) (by dsimp only; omega)) ?_
    have g4 := ((h4.set (.bool (inL l t))).far (p := ⟨w.heap.size + 2, 0, none⟩) (.int .i64 0) (by dsimp only; omega)).put (D := w5.heap.size) (.deferred none) (by omega)
    have g5 := ((h5.far (p := ⟨w.heap.size + 1, 0, none⟩) (.bool (inL l t)) (by dsimp only; omega)).set (.int .i64 0)).put (D := w5.heap.size) (.deferred none) (by omega)
    have c4' := g4.cell
    have c5' := g5.cell
    exact ⟨_, by simp [results, Try.results40, go_sem, c4', c5'], rfl, below_put ((h11.setCell (by dsimp only; omega) _).setCell (by dsimp only; omega) _) _ (by omega)⟩

theorem sHas_any (A : Option Addr) (c : Nat) (l : List Sp) (t : Int) (w : World) (hS : Sl spc 2 w A c l) :
    Calls Try.prog 40 #[.slice A l.length c, .int .i64 t] w fun e w' => e = .returned (.tuple #[.bool (hasR l t), .int .i64 (hasE l t)]) ∧ Below w.heap.size w w' := by
  by_cases hz : chkS l = 0
  · by_cases ht : 0 ≤ t ∧ t < 1099511627776
    · have := has_good A c l t w hS hz ht
      unfold hasR hasE
      rw [if_pos hz, if_pos ht, if_pos ⟨hz, ht⟩]
      exact this
    · have := has_out A c l t w hS hz (by omega)
      unfold hasR hasE
      rw [if_pos hz, if_neg ht, if_neg (fun h => ht h.2)]
      exact this
  · have := has_bad A c l t w hS hz
    unfold hasR hasE
    rw [if_neg hz, if_neg (fun h => hz h.1)]
    exact this
end Go.Proofs.Ytchdoamoeccjkaa

/-
  spans.Union, Meet, Minus.
-/
import Derived.Test.YtbfgbkblblnbhaaSResult2
namespace Go.Proofs.Ytbfgbkblblnbhaa
open Go.RowKit Go.Mine Go.Mine.H Go.Mine.S

def errS (a b : List Sp) : Int := if chkS a = 0 then chkS b else chkS a
def uniR (f : Bool → Bool → Bool) (a b : List Sp) : List Sp := if errS a b = 0 then uni f a b else []
theorem chkAll_errS (a b : List Sp) : chkAll [a, b] = errS a b := by
  unfold errS
  rw [show chkAll [a, b] = if chkS a = 0 then chkAll [b] else chkS a from rfl, chkAll_one]
theorem errS_zero {a b : List Sp} (h : errS a b = 0) : chkS a = 0 ∧ chkS b = 0 := by
  unfold errS at h
  split at h
  · exact ⟨by assumption, h⟩
  · contradiction
theorem result_bad (fv : Value) (A A' : Option Addr) (c c' : Nat) (a b : List Sp) (w : World) (hSa : Sl bc 2 w A c a) (hSb : Sl bc 2 w A' c' b) (hz : errS a b ≠ 0) (F : Nat) (hF : fv = .func (.func F) #[] #[]) :
    Calls Try.prog 65 #[.slice A a.length c, .slice A' b.length c', fv] w fun e w' => e = .panicked [{ v := .iface 25 (.int .i64 (errS a b)), recovered := false }] ∧ Below w.heap.size w w' := by
  have K60 := hide (fun bl w (hL : SlSl w bl 2 [a, b]) => scheck_any bl 2 [a, b] w hL (by simp))
  rw [chkAll_errS, endC_bad hz] at K60
  clear hz
  subst hF
  go_enter Try.func65, Try.ntmps65
  go_wp2_with fail
  refine (K60.out _ _ (slsl_two (Blk.new2 w _ _ _ 30) (((hSa.alloc _).alloc _).alloc _) (((hSb.alloc _).alloc _).alloc _))).mono ?_
  rintro e w3 ⟨rfl, hb⟩
  have hB3 := kcall (kalloc (kalloc (kalloc (Below.refl w.heap.size w) _) _) _) hb
  go_wp2_with fail
  exact ⟨rfl, rfl, hB3⟩

set_option maxHeartbeats 1000000 in
theorem s37_any (A A' : Option Addr) (c c' : Nat) (a b : List Sp) (w : World) (hSa : Sl bc 2 w A c a) (hSb : Sl bc 2 w A' c' b) (hl : errS a b = 0 → a.length + b.length ≤ 4096) :
    Calls Try.prog 37 #[.slice A a.length c, .slice A' b.length c'] w fun e w' => ∃ A2 c2, e = .returned (.tuple #[.slice A2 (uniR fOr a b).length c2, .int .i64 (errS a b)]) ∧ Sl bc 2 w' A2 c2 (uniR fOr a b) ∧ Below w.heap.size w w' := by
  by_cases hz : errS a b = 0
  · obtain ⟨za, zb⟩ := errS_zero hz
    have K := hide (fun w (hSa : Sl bc 2 w A c a) (hSb : Sl bc 2 w A' c' b) => result66_good A A' c c' a b w hSa hSb za zb (hl hz))
    have E := hide (show uniR fOr a b = uni fOr a b by unfold uniR; rw [if_pos hz])
    rw [hz]
    clear hz hl za zb
    go_enter_defers Try.func37, Try.ntmps37
    go_wp2_with fail
    refine (K.out _ (hSa.alloc _) (hSb.alloc _)).mono ?_
    rintro e w2 ⟨v, rfl, hO, hb⟩
    have hB := kcall (kalloc (Below.refl w.heap.size w) _) hb
    have be := (Blk.new w #[.int .i64 0] 25).bel hb
    have y0 := be.cell (v := .int .i64 0) 0 rfl
    have z0 := be.thaw 0
    obtain ⟨A2, c2, rfl, -⟩ := OwnL.sl hO
    have hO2 := hide (OwnL.keep (w' := w2.setCell ⟨w.heap.size, 0, none⟩ (.int .i64 0)) hO (fun g hg => Below.heap_setCell _ _ _ _ (by dsimp only; have := (hO.blk hg).1; simp at this; omega)))
    clear hb be K hO
    go_wp2_with fail
    (refine leaves_cons (f := 59) (args := #[.pointer (some ⟨w.heap.size, 0, none⟩)]) (by simp) (by simp [go_sem]) ?_)
    refine (caught_idle _ _).mono ?_
    rintro e u' w'' ⟨rfl, rfl, rfl⟩
    obtain ⟨A3, c3, hv, hS3⟩ := OwnL.sl hO2.out
    simp only [Value.slice.injEq] at hv
    obtain ⟨rfl, -, rfl⟩ := hv
    exact ⟨_, by simp [results, Try.results37, go_sem, y0]; rfl, A2, c2, by rw [E.out], by rw [E.out]; exact hS3, hB.setCell (by dsimp only; omega) _⟩
  · have K := hide (fun w (hSa : Sl bc 2 w A c a) (hSb : Sl bc 2 w A' c' b) => result_bad _ A A' c c' a b w hSa hSb hz 66 rfl)
    have E := hide (show uniR fOr a b = [] by unfold uniR; rw [if_neg hz])
    clear hz hl
    go_enter_defers Try.func37, Try.ntmps37
    go_wp2_with fail
    refine (K.out _ (hSa.alloc _) (hSb.alloc _)).mono ?_
    rintro e w2 ⟨rfl, hb⟩
    have hB := kcall (kalloc (Below.refl w.heap.size w) _) hb
    have be := (Blk.new w #[.int .i64 0] 25).bel hb
    have y0 := be.cell (v := .int .i64 0) 0 rfl
    have z0 := be.thaw 0
    clear hb be K
    go_wp2_with fail
    (refine leaves_cons (f := 59) (args := #[.pointer (some ⟨w.heap.size, 0, none⟩)]) (by simp) (by simp [go_sem]) ?_)
    refine (caught_panicking _ 0 (errS a b) [] _ y0 z0).mono ?_
    rintro e u' w'' ⟨rfl, rfl, rfl⟩
    exact ⟨_, by simp [results, Try.results37, go_sem, y0]; rfl, none, 0, by rw [E.out]; rfl, by rw [E.out]; exact Sl.nil (by omega), hB.setCell (by dsimp only; omega) _⟩

set_option maxHeartbeats 1000000 in
theorem s39_any (A A' : Option Addr) (c c' : Nat) (a b : List Sp) (w : World) (hSa : Sl bc 2 w A c a) (hSb : Sl bc 2 w A' c' b) (hl : errS a b = 0 → a.length + b.length ≤ 4096) :
    Calls Try.prog 39 #[.slice A a.length c, .slice A' b.length c'] w fun e w' => ∃ A2 c2, e = .returned (.tuple #[.slice A2 (uniR fAnd a b).length c2, .int .i64 (errS a b)]) ∧ Sl bc 2 w' A2 c2 (uniR fAnd a b) ∧ Below w.heap.size w w' := by
  by_cases hz : errS a b = 0
  · obtain ⟨za, zb⟩ := errS_zero hz
    have K := hide (fun w (hSa : Sl bc 2 w A c a) (hSb : Sl bc 2 w A' c' b) => result68_good A A' c c' a b w hSa hSb za zb (hl hz))
    have E := hide (show uniR fAnd a b = uni fAnd a b by unfold uniR; rw [if_pos hz])
    rw [hz]
    clear hz hl za zb
    go_enter_defers Try.func39, Try.ntmps39
    go_wp2_with fail
    refine (K.out _ (hSa.alloc _) (hSb.alloc _)).mono ?_
    rintro e w2 ⟨v, rfl, hO, hb⟩
    have hB := kcall (kalloc (Below.refl w.heap.size w) _) hb
    have be := (Blk.new w #[.int .i64 0] 25).bel hb
    have y0 := be.cell (v := .int .i64 0) 0 rfl
    have z0 := be.thaw 0
    obtain ⟨A2, c2, rfl, -⟩ := OwnL.sl hO
    have hO2 := hide (OwnL.keep (w' := w2.setCell ⟨w.heap.size, 0, none⟩ (.int .i64 0)) hO (fun g hg => Below.heap_setCell _ _ _ _ (by dsimp only; have := (hO.blk hg).1; simp at this; omega)))
    clear hb be K hO
    go_wp2_with fail
    (refine leaves_cons (f := 59) (args := #[.pointer (some ⟨w.heap.size, 0, none⟩)]) (by simp) (by simp [go_sem]) ?_)
    refine (caught_idle _ _).mono ?_
    rintro e u' w'' ⟨rfl, rfl, rfl⟩
    obtain ⟨A3, c3, hv, hS3⟩ := OwnL.sl hO2.out
    simp only [Value.slice.injEq] at hv
    obtain ⟨rfl, -, rfl⟩ := hv
    exact ⟨_, by simp [results, Try.results39, go_sem, y0]; rfl, A2, c2, by rw [E.out], by rw [E.out]; exact hS3, hB.setCell (by dsimp only; omega) _⟩
  · have K := hide (fun w (hSa : Sl bc 2 w A c a) (hSb : Sl bc 2 w A' c' b) => result_bad _ A A' c c' a b w hSa hSb hz 68 rfl)
    have E := hide (show uniR fAnd a b = [] by unfold uniR; rw [if_neg hz])
    clear hz hl
    go_enter_defers Try.func39, Try.ntmps39
    go_wp2_with fail
    refine (K.out _ (hSa.alloc _) (hSb.alloc _)).mono ?_
    rintro e w2 ⟨rfl, hb⟩
    have hB := kcall (kalloc (Below.refl w.heap.size w) _) hb
    have be := (Blk.new w #[.int .i64 0] 25).bel hb
    have y0 := be.cell (v := .int .i64 0) 0 rfl
    have z0 := be.thaw 0
    clear hb be K
    go_wp2_with fail
    (refine leaves_cons (f := 59) (args := #[.pointer (some ⟨w.heap.size, 0, none⟩)]) (by simp) (by simp [go_sem]) ?_)
    refine (caught_panicking _ 0 (errS a b) [] _ y0 z0).mono ?_
    rintro e u' w'' ⟨rfl, rfl, rfl⟩
    exact ⟨_, by simp [results, Try.results39, go_sem, y0]; rfl, none, 0, by rw [E.out]; rfl, by rw [E.out]; exact Sl.nil (by omega), hB.setCell (by dsimp only; omega) _⟩

set_option maxHeartbeats 1000000 in
theorem s41_any (A A' : Option Addr) (c c' : Nat) (a b : List Sp) (w : World) (hSa : Sl bc 2 w A c a) (hSb : Sl bc 2 w A' c' b) (hl : errS a b = 0 → a.length + b.length ≤ 4096) :
    Calls Try.prog 41 #[.slice A a.length c, .slice A' b.length c'] w fun e w' => ∃ A2 c2, e = .returned (.tuple #[.slice A2 (uniR fNot a b).length c2, .int .i64 (errS a b)]) ∧ Sl bc 2 w' A2 c2 (uniR fNot a b) ∧ Below w.heap.size w w' := by
  by_cases hz : errS a b = 0
  · obtain ⟨za, zb⟩ := errS_zero hz
    have K := hide (fun w (hSa : Sl bc 2 w A c a) (hSb : Sl bc 2 w A' c' b) => result69_good A A' c c' a b w hSa hSb za zb (hl hz))
    have E := hide (show uniR fNot a b = uni fNot a b by unfold uniR; rw [if_pos hz])
    rw [hz]
    clear hz hl za zb
    go_enter_defers Try.func41, Try.ntmps41
    go_wp2_with fail
    refine (K.out _ (hSa.alloc _) (hSb.alloc _)).mono ?_
    rintro e w2 ⟨v, rfl, hO, hb⟩
    have hB := kcall (kalloc (Below.refl w.heap.size w) _) hb
    have be := (Blk.new w #[.int .i64 0] 25).bel hb
    have y0 := be.cell (v := .int .i64 0) 0 rfl
    have z0 := be.thaw 0
    obtain ⟨A2, c2, rfl, -⟩ := OwnL.sl hO
    have hO2 := hide (OwnL.keep (w' := w2.setCell ⟨w.heap.size, 0, none⟩ (.int .i64 0)) hO (fun g hg => Below.heap_setCell _ _ _ _ (by dsimp only; have := (hO.blk hg).1; simp at this; omega)))
    clear hb be K hO
    go_wp2_with fail
    (refine leaves_cons (f := 59) (args := #[.pointer (some ⟨w.heap.size, 0, none⟩)]) (by simp) (by simp [go_sem]) ?_)
    refine (caught_idle _ _).mono ?_
    rintro e u' w'' ⟨rfl, rfl, rfl⟩
    obtain ⟨A3, c3, hv, hS3⟩ := OwnL.sl hO2.out
    simp only [Value.slice.injEq] at hv
    obtain ⟨rfl, -, rfl⟩ := hv
    exact ⟨_, by simp [results, Try.results41, go_sem, y0]; rfl, A2, c2, by rw [E.out], by rw [E.out]; exact hS3, hB.setCell (by dsimp only; omega) _⟩
  · have K := hide (fun w (hSa : Sl bc 2 w A c a) (hSb : Sl bc 2 w A' c' b) => result_bad _ A A' c c' a b w hSa hSb hz 69 rfl)
    have E := hide (show uniR fNot a b = [] by unfold uniR; rw [if_neg hz])
    clear hz hl
    go_enter_defers Try.func41, Try.ntmps41
    go_wp2_with fail
    refine (K.out _ (hSa.alloc _) (hSb.alloc _)).mono ?_
    rintro e w2 ⟨rfl, hb⟩
    have hB := kcall (kalloc (Below.refl w.heap.size w) _) hb
    have be := (Blk.new w #[.int .i64 0] 25).bel hb
    have y0 := be.cell (v := .int .i64 0) 0 rfl
    have z0 := be.thaw 0
    clear hb be K
    go_wp2_with fail
    (refine leaves_cons (f := 59) (args := #[.pointer (some ⟨w.heap.size, 0, none⟩)]) (by simp) (by simp [go_sem]) ?_)
    refine (caught_panicking _ 0 (errS a b) [] _ y0 z0).mono ?_
    rintro e u' w'' ⟨rfl, rfl, rfl⟩
    exact ⟨_, by simp [results, Try.results41, go_sem, y0]; rfl, none, 0, by rw [E.out]; rfl, by rw [E.out]; exact Sl.nil (by omega), hB.setCell (by dsimp only; omega) _⟩
end Go.Proofs.Ytbfgbkblblnbhaa

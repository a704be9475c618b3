/-
  Layer 13: sane returns true.
-/
import Derived.Test.YtbfgbkblblnbhaaSOf
import Derived.Test.YtbfgbkblblnbhaaSSame
import Derived.Test.YtbfgbkblblnbhaaHSane
import Derived.Test.YtbfgbkblblnbhaaMore
namespace Go.Proofs.Ytbfgbkblblnbhaa
open Go.RowKit Go.Mine Go.Mine.H Go.Mine.S

theorem of_lit (A : Option Addr) (c : Nat) (ps : List Sp) (k m : Nat) (hk : 2 * ps.length = k) (hm : ps.length = m) (w : World) (hS : Sl bi 1 w A c (ends ps)) (hl : ps.length ≤ 100) :
    Calls Try.prog 58 #[.slice A k c] w fun e w' => ∃ A2 c2, e = .returned (.slice A2 m c2) ∧ Sl bc 2 w' A2 c2 ps ∧ Below w.heap.size w w' := by
  subst hk hm
  refine (of13_any A c ps w hS hl).mono ?_
  rintro e w' ⟨v, rfl, hO, hb⟩
  obtain ⟨A2, c2, rfl, hs⟩ := OwnL.sl hO
  exact ⟨A2, c2, rfl, hs, hb⟩
theorem scheck_long (b n c : Nat) (A : Option Addr) (w : World) (hb : Blk w b 30 #[.slice A n c]) (hn : 4096 < n) (hc : n ≤ 9223372036854775807) :
    Calls Try.prog 60 #[.slice (some ⟨b, 0, none⟩) 1 1] w fun e w' => e = .panicked [{ v := .iface 25 (.int .i64 2), recovered := false }] ∧ Below w.heap.size w w' := by
  have c0 := hb.cell (v := .slice A n c) 0 rfl
  have g4 : decide ((4096 : Int) < n) = true := by simp; omega
  clear hb
  go_enter Try.func60, Try.ntmps60
  go_wp2
  go_loopw [9] (fun i wr => i = .int .i64 0 ∧ w = wr) (fun _ _ => 1)
  case atStart => exact ⟨rfl, rfl⟩
  case round =>
    obtain ⟨rfl, rfl⟩ := hrel
    go_wp2
    exact ⟨rfl, rfl, Below.refl _ _⟩
theorem sCheck_long (n c : Nat) (A : Option Addr) (w : World) (hn : 4096 < n) (hc : n ≤ 9223372036854775807) :
    Calls Try.prog 35 #[.slice A n c] w fun e w' => e = .returned (.int .i64 2) ∧ Below w.heap.size w w' := by
  have K := hide (fun b w (hb : Blk w b 30 #[.slice A n c]) => scheck_long b n c A w hb hn hc)
  go_enter_defers Try.func35, Try.ntmps35
  go_wp2_with fail
  refine (K.out _ _ (Blk.new1 w _ _ 30)).mono ?_
  rintro e w2 ⟨rfl, hb⟩
  have hB := kcall (kalloc (kalloc (Below.refl w.heap.size w) _) _) hb
  have be := ((Blk.new w #[.int .i64 0] 25).alloc (Obj.cells #[.slice A n c] 30)).bel hb
  have y0 := be.cell (v := .int .i64 0) 0 rfl
  have z0 := be.thaw 0
  replace be := hide be
  clear hb
  go_wp2_with fail
  refine leaves_cons (f := 59) (args := #[.pointer (some ⟨w.heap.size, 0, none⟩)]) (by simp) (by simp [go_sem]) ?_
  refine (caught_panicking _ 0 2 [] _ y0 z0).mono ?_
  rintro e u' w'' ⟨rfl, rfl, rfl⟩
  exact ⟨_, by simp [results, Try.results35, go_sem, y0], rfl, hB.setCell (by dsimp only; omega) _⟩

theorem uni_lit37 (A A' : Option Addr) (c c' : Nat) (a b r : List Sp) (n n' m : Nat) (hn : a.length = n) (hn' : b.length = n') (hm : r.length = m) (he : errS a b = 0) (hr : uni fOr a b = r) (w : World) (hSa : Sl bc 2 w A c a) (hSb : Sl bc 2 w A' c' b) (hl : a.length + b.length ≤ 4096) :
    Calls Try.prog 37 #[.slice A n c, .slice A' n' c'] w fun e w' => ∃ A2 c2, e = .returned (.tuple #[.slice A2 m c2, .int .i64 0]) ∧ Sl bc 2 w' A2 c2 r ∧ Below w.heap.size w w' := by
  subst hn hn' hm
  have := s37_any A A' c c' a b w hSa hSb (fun _ => hl)
  rw [he, show uniR fOr a b = r by unfold uniR; rw [if_pos he, hr]] at this
  exact this
theorem uni_lit39 (A A' : Option Addr) (c c' : Nat) (a b r : List Sp) (n n' m : Nat) (hn : a.length = n) (hn' : b.length = n') (hm : r.length = m) (he : errS a b = 0) (hr : uni fAnd a b = r) (w : World) (hSa : Sl bc 2 w A c a) (hSb : Sl bc 2 w A' c' b) (hl : a.length + b.length ≤ 4096) :
    Calls Try.prog 39 #[.slice A n c, .slice A' n' c'] w fun e w' => ∃ A2 c2, e = .returned (.tuple #[.slice A2 m c2, .int .i64 0]) ∧ Sl bc 2 w' A2 c2 r ∧ Below w.heap.size w w' := by
  subst hn hn' hm
  have := s39_any A A' c c' a b w hSa hSb (fun _ => hl)
  rw [he, show uniR fAnd a b = r by unfold uniR; rw [if_pos he, hr]] at this
  exact this
theorem uni_lit41 (A A' : Option Addr) (c c' : Nat) (a b r : List Sp) (n n' m : Nat) (hn : a.length = n) (hn' : b.length = n') (hm : r.length = m) (he : errS a b = 0) (hr : uni fNot a b = r) (w : World) (hSa : Sl bc 2 w A c a) (hSb : Sl bc 2 w A' c' b) (hl : a.length + b.length ≤ 4096) :
    Calls Try.prog 41 #[.slice A n c, .slice A' n' c'] w fun e w' => ∃ A2 c2, e = .returned (.tuple #[.slice A2 m c2, .int .i64 0]) ∧ Sl bc 2 w' A2 c2 r ∧ Below w.heap.size w w' := by
  subst hn hn' hm
  have := s41_any A A' c c' a b w hSa hSb (fun _ => hl)
  rw [he, show uniR fNot a b = r by unfold uniR; rw [if_pos he, hr]] at this
  exact this

set_option maxRecDepth 100000 in
set_option maxHeartbeats 8000000 in
theorem sane13_any (w : World) : Calls Try.prog 29 #[] w fun e w' => e = .returned (.bool true) ∧ Below w.heap.size w w' := by
  have hB0 := Below.refl w.heap.size w
  obtain ⟨i0, hi, hz0, hz1, hz2⟩ := info_parts Try_info62
  have hmk : ∀ w : World, (Instr.makeSlice 30 (.int .i64 4097) (.int .i64 4097)).run Try.prog w = .ok (.slice (some ⟨w.heap.size, 0, none⟩) 4097 4097) (w.alloc (.cells (madeCells (Value.agg #[.int .i64 0, .int .i64 0]).cells (4097 * i0.size)) 62)) := fun w => run_make_rowN 30 62 i0 _ Try.underlying30 hi hz0 .i64 .i64 4097 4097 (by decide) (by rw [hz2]; decide) (by decide) w
  clear hi
  go_enter Try.func29, Try.ntmps29
  go_wp2_with fail
  refine (of_lit _ _ [(1, 3)] 2 1 rfl rfl _ (Sl.lit bi 1 w 3 _ _ 2 (fun _ _ => rfl) rfl rfl (by decide)) (by decide)).mono ?_
  rintro e w1 ⟨A1, c1, rfl, new, hb⟩
  have hB1 := kcall (kalloc hB0 _) hb
  clear hb hB0
  have p1 := new
  clear new
  go_wp2_with fail
  refine (of_lit _ _ [(3, 5)] 2 1 rfl rfl _ (Sl.lit bi 1 w1 3 _ _ 2 (fun _ _ => rfl) rfl rfl (by decide)) (by decide)).mono ?_
  rintro e w2 ⟨A2, c2, rfl, new, hb⟩
  have hB2 := kcall (kalloc hB1 _) hb
  replace p1 := (p1.alloc _).bel hb
  clear hb hB1
  have p2 := new
  clear new
  go_wp2_with fail
  refine (uni_lit37 _ _ _ _ [(1, 3)] [(3, 5)] [(1, 5)] 1 1 1 rfl rfl rfl (by decide) (by simp [uni, ends, st, resGo, fOr, fAnd, fNot]) _ p1 p2 (by decide)).mono ?_
  rintro e w3 ⟨A3, c3, rfl, new, hb⟩
  have hB3 := kcall hB2 hb
  clear p1
  clear p2
  clear hb hB2
  have r1 := new
  clear new
  go_wp2_with fail
  refine (of_lit _ _ [(1, 3)] 2 1 rfl rfl _ (Sl.lit bi 1 w3 3 _ _ 2 (fun _ _ => rfl) rfl rfl (by decide)) (by decide)).mono ?_
  rintro e w4 ⟨A4, c4, rfl, new, hb⟩
  have hB4 := kcall (kalloc hB3 _) hb
  replace r1 := (r1.alloc _).bel hb
  clear hb hB3
  have p1 := new
  clear new
  go_wp2_with fail
  refine (of_lit _ _ [(3, 5)] 2 1 rfl rfl _ (Sl.lit bi 1 w4 3 _ _ 2 (fun _ _ => rfl) rfl rfl (by decide)) (by decide)).mono ?_
  rintro e w5 ⟨A5, c5, rfl, new, hb⟩
  have hB5 := kcall (kalloc hB4 _) hb
  replace r1 := (r1.alloc _).bel hb
  replace p1 := (p1.alloc _).bel hb
  clear hb hB4
  have p2 := new
  clear new
  go_wp2_with fail
  refine (uni_lit39 _ _ _ _ [(1, 3)] [(3, 5)] [] 1 1 0 rfl rfl rfl (by decide) (by simp [uni, ends, st, resGo, fOr, fAnd, fNot]) _ p1 p2 (by decide)).mono ?_
  rintro e w6 ⟨A6, c6, rfl, new, hb⟩
  have hB6 := kcall hB5 hb
  replace r1 := (r1).bel hb
  clear p1
  clear p2
  clear hb hB5
  have r2 := new
  clear new
  go_wp2_with fail
  refine (of_lit _ _ [(1, 9)] 2 1 rfl rfl _ (Sl.lit bi 1 w6 3 _ _ 2 (fun _ _ => rfl) rfl rfl (by decide)) (by decide)).mono ?_
  rintro e w7 ⟨A7, c7, rfl, new, hb⟩
  have hB7 := kcall (kalloc hB6 _) hb
  replace r1 := (r1.alloc _).bel hb
  replace r2 := (r2.alloc _).bel hb
  clear hb hB6
  have p1 := new
  clear new
  go_wp2_with fail
  refine (of_lit _ _ [(3, 5)] 2 1 rfl rfl _ (Sl.lit bi 1 w7 3 _ _ 2 (fun _ _ => rfl) rfl rfl (by decide)) (by decide)).mono ?_
  rintro e w8 ⟨A8, c8, rfl, new, hb⟩
  have hB8 := kcall (kalloc hB7 _) hb
  replace r1 := (r1.alloc _).bel hb
  replace r2 := (r2.alloc _).bel hb
  replace p1 := (p1.alloc _).bel hb
  clear hb hB7
  have p2 := new
  clear new
  go_wp2_with fail
  refine (uni_lit41 _ _ _ _ [(1, 9)] [(3, 5)] [(1, 3), (5, 9)] 1 1 2 rfl rfl rfl (by decide) (by simp [uni, ends, st, resGo, fOr, fAnd, fNot]) _ p1 p2 (by decide)).mono ?_
  rintro e w9 ⟨A9, c9, rfl, new, hb⟩
  have hB9 := kcall hB8 hb
  replace r1 := (r1).bel hb
  replace r2 := (r2).bel hb
  clear p1
  clear p2
  clear hb hB8
  have r3 := new
  clear new
  go_wp2_with fail
  refine (of_lit _ _ [(1, 3), (7, 9)] 4 2 rfl rfl _ (Sl.lit bi 1 w9 3 _ _ 4 (fun _ _ => rfl) rfl rfl (by decide)) (by decide)).mono ?_
  rintro e w10 ⟨A10, c10, rfl, new, hb⟩
  have hB10 := kcall (kalloc hB9 _) hb
  replace r1 := (r1.alloc _).bel hb
  replace r2 := (r2.alloc _).bel hb
  replace r3 := (r3.alloc _).bel hb
  clear hb hB9
  have p1 := new
  clear new
  go_wp2_with fail
  refine (of_lit _ _ [(2, 8), (20, 30)] 4 2 rfl rfl _ (Sl.lit bi 1 w10 3 _ _ 4 (fun _ _ => rfl) rfl rfl (by decide)) (by decide)).mono ?_
  rintro e w11 ⟨A11, c11, rfl, new, hb⟩
  have hB11 := kcall (kalloc hB10 _) hb
  replace r1 := (r1.alloc _).bel hb
  replace r2 := (r2.alloc _).bel hb
  replace r3 := (r3.alloc _).bel hb
  replace p1 := (p1.alloc _).bel hb
  clear hb hB10
  have p2 := new
  clear new
  go_wp2_with fail
  refine (uni_lit37 _ _ _ _ [(1, 3), (7, 9)] [(2, 8), (20, 30)] [(1, 9), (20, 30)] 2 2 2 rfl rfl rfl (by decide) (by simp [uni, ends, st, resGo, fOr, fAnd, fNot]) _ p1 p2 (by decide)).mono ?_
  rintro e w12 ⟨A12, c12, rfl, new, hb⟩
  have hB12 := kcall hB11 hb
  replace r1 := (r1).bel hb
  replace r2 := (r2).bel hb
  replace r3 := (r3).bel hb
  clear p1
  clear p2
  clear hb hB11
  have r4 := new
  clear new
  go_wp2_with fail
  refine (of_lit _ _ [(1, 9)] 2 1 rfl rfl _ (Sl.lit bi 1 w12 3 _ _ 2 (fun _ _ => rfl) rfl rfl (by decide)) (by decide)).mono ?_
  rintro e w13 ⟨A13, c13, rfl, new, hb⟩
  have hB13 := kcall (kalloc hB12 _) hb
  replace r1 := (r1.alloc _).bel hb
  replace r2 := (r2.alloc _).bel hb
  replace r3 := (r3.alloc _).bel hb
  replace r4 := (r4.alloc _).bel hb
  clear hb hB12
  have p1 := new
  clear new
  go_wp2_with fail
  refine (of_lit _ _ [(0, 2), (4, 5), (8, 12)] 6 3 rfl rfl _ (Sl.lit bi 1 w13 3 _ _ 6 (fun _ _ => rfl) rfl rfl (by decide)) (by decide)).mono ?_
  rintro e w14 ⟨A14, c14, rfl, new, hb⟩
  have hB14 := kcall (kalloc hB13 _) hb
  replace r1 := (r1.alloc _).bel hb
  replace r2 := (r2.alloc _).bel hb
  replace r3 := (r3.alloc _).bel hb
  replace r4 := (r4.alloc _).bel hb
  replace p1 := (p1.alloc _).bel hb
  clear hb hB13
  have p2 := new
  clear new
  go_wp2_with fail
  refine (uni_lit39 _ _ _ _ [(1, 9)] [(0, 2), (4, 5), (8, 12)] [(1, 2), (4, 5), (8, 9)] 1 3 3 rfl rfl rfl (by decide) (by simp [uni, ends, st, resGo, fOr, fAnd, fNot]) _ p1 p2 (by decide)).mono ?_
  rintro e w15 ⟨A15, c15, rfl, new, hb⟩
  have hB15 := kcall hB14 hb
  replace r1 := (r1).bel hb
  replace r2 := (r2).bel hb
  replace r3 := (r3).bel hb
  replace r4 := (r4).bel hb
  clear p1
  clear p2
  clear hb hB14
  have r5 := new
  clear new
  go_wp2_with fail
  refine (of_lit _ _ [(1, 3)] 2 1 rfl rfl _ (Sl.lit bi 1 w15 3 _ _ 2 (fun _ _ => rfl) rfl rfl (by decide)) (by decide)).mono ?_
  rintro e w16 ⟨A16, c16, rfl, new, hb⟩
  have hB16 := kcall (kalloc hB15 _) hb
  replace r1 := (r1.alloc _).bel hb
  replace r2 := (r2.alloc _).bel hb
  replace r3 := (r3.alloc _).bel hb
  replace r4 := (r4.alloc _).bel hb
  replace r5 := (r5.alloc _).bel hb
  clear hb hB15
  have p1 := new
  clear new
  go_wp2_with fail
  have hh := sHas_any _ _ [(1, 3)] 2 w16 p1
  rw [show hasR [(1, 3)] 2 = true from by decide, show hasE [(1, 3)] 2 = 0 from by decide] at hh
  refine hh.mono ?_
  clear hh
  rintro e w17 ⟨rfl, hb⟩
  have hB17 := kcall hB16 hb
  replace r1 := (r1).bel hb
  replace r2 := (r2).bel hb
  replace r3 := (r3).bel hb
  replace r4 := (r4).bel hb
  replace r5 := (r5).bel hb
  clear p1
  clear hb hB16
  go_wp2_with fail
  refine (of_lit _ _ [(1, 3)] 2 1 rfl rfl _ (Sl.lit bi 1 w17 3 _ _ 2 (fun _ _ => rfl) rfl rfl (by decide)) (by decide)).mono ?_
  rintro e w18 ⟨A18, c18, rfl, new, hb⟩
  have hB18 := kcall (kalloc hB17 _) hb
  replace r1 := (r1.alloc _).bel hb
  replace r2 := (r2.alloc _).bel hb
  replace r3 := (r3.alloc _).bel hb
  replace r4 := (r4.alloc _).bel hb
  replace r5 := (r5.alloc _).bel hb
  clear hb hB17
  have p1 := new
  clear new
  go_wp2_with fail
  have hh := sHas_any _ _ [(1, 3)] 3 w18 p1
  rw [show hasR [(1, 3)] 3 = false from by decide, show hasE [(1, 3)] 3 = 0 from by decide] at hh
  refine hh.mono ?_
  clear hh
  rintro e w19 ⟨rfl, hb⟩
  have hB19 := kcall hB18 hb
  replace r1 := (r1).bel hb
  replace r2 := (r2).bel hb
  replace r3 := (r3).bel hb
  replace r4 := (r4).bel hb
  replace r5 := (r5).bel hb
  clear p1
  clear hb hB18
  go_wp2_with fail
  have hh := sHas_any none 0 ([] : List Sp) (-1) w19 (Sl.nil (by omega))
  rw [show hasR ([] : List Sp) (-1) = false from by decide, show hasE ([] : List Sp) (-1) = 1 from by decide] at hh
  refine hh.mono ?_
  clear hh
  rintro e w20 ⟨rfl, hb⟩
  have hB20 := kcall hB19 hb
  replace r1 := (r1).bel hb
  replace r2 := (r2).bel hb
  replace r3 := (r3).bel hb
  replace r4 := (r4).bel hb
  replace r5 := (r5).bel hb
  clear hb hB19
  go_wp2_with fail
  have hh := sHas_any none 0 ([] : List Sp) 1099511627776 w20 (Sl.nil (by omega))
  rw [show hasR ([] : List Sp) 1099511627776 = false from by decide, show hasE ([] : List Sp) 1099511627776 = 1 from by decide] at hh
  refine hh.mono ?_
  clear hh
  rintro e w21 ⟨rfl, hb⟩
  have hB21 := kcall hB20 hb
  replace r1 := (r1).bel hb
  replace r2 := (r2).bel hb
  replace r3 := (r3).bel hb
  replace r4 := (r4).bel hb
  replace r5 := (r5).bel hb
  clear hb hB20
  go_wp2_with fail
  refine (of_lit _ _ [(1, 3), (5, 6)] 4 2 rfl rfl _ (Sl.lit bi 1 w21 3 _ _ 4 (fun _ _ => rfl) rfl rfl (by decide)) (by decide)).mono ?_
  rintro e w22 ⟨A22, c22, rfl, new, hb⟩
  have hB22 := kcall (kalloc hB21 _) hb
  replace r1 := (r1.alloc _).bel hb
  replace r2 := (r2.alloc _).bel hb
  replace r3 := (r3.alloc _).bel hb
  replace r4 := (r4.alloc _).bel hb
  replace r5 := (r5.alloc _).bel hb
  clear hb hB21
  have p1 := new
  clear new
  go_wp2_with fail
  have hh := sTotal_any _ _ [(1, 3), (5, 6)] w22 p1
  rw [show totR [(1, 3), (5, 6)] = 3 from by decide, show chkS [(1, 3), (5, 6)] = 0 from by decide] at hh
  refine hh.mono ?_
  clear hh
  rintro e w23 ⟨rfl, hb⟩
  have hB23 := kcall hB22 hb
  replace r1 := (r1).bel hb
  replace r2 := (r2).bel hb
  replace r3 := (r3).bel hb
  replace r4 := (r4).bel hb
  replace r5 := (r5).bel hb
  clear p1
  clear hb hB22
  go_wp2_with fail
  have hh := sCheck_any none 0 ([] : List Sp) w23 (Sl.nil (by omega))
  rw [show chkS ([] : List Sp) = 0 from by decide] at hh
  refine hh.mono ?_
  clear hh
  rintro e w24 ⟨rfl, hb⟩
  have hB24 := kcall hB23 hb
  replace r1 := (r1).bel hb
  replace r2 := (r2).bel hb
  replace r3 := (r3).bel hb
  replace r4 := (r4).bel hb
  replace r5 := (r5).bel hb
  clear hb hB23
  go_wp2_with fail
  refine (of_lit _ _ [(2, 2)] 2 1 rfl rfl _ (Sl.lit bi 1 w24 3 _ _ 2 (fun _ _ => rfl) rfl rfl (by decide)) (by decide)).mono ?_
  rintro e w25 ⟨A25, c25, rfl, new, hb⟩
  have hB25 := kcall (kalloc hB24 _) hb
  replace r1 := (r1.alloc _).bel hb
  replace r2 := (r2.alloc _).bel hb
  replace r3 := (r3.alloc _).bel hb
  replace r4 := (r4.alloc _).bel hb
  replace r5 := (r5.alloc _).bel hb
  clear hb hB24
  have p1 := new
  clear new
  go_wp2_with fail
  have hh := sCheck_any _ _ [(2, 2)] w25 p1
  rw [show chkS [(2, 2)] = 130 from by decide] at hh
  refine hh.mono ?_
  clear hh
  rintro e w26 ⟨rfl, hb⟩
  have hB26 := kcall hB25 hb
  replace r1 := (r1).bel hb
  replace r2 := (r2).bel hb
  replace r3 := (r3).bel hb
  replace r4 := (r4).bel hb
  replace r5 := (r5).bel hb
  clear p1
  clear hb hB25
  go_wp2_with fail
  refine (of_lit _ _ [(1, 3), (3, 5)] 4 2 rfl rfl _ (Sl.lit bi 1 w26 3 _ _ 4 (fun _ _ => rfl) rfl rfl (by decide)) (by decide)).mono ?_
  rintro e w27 ⟨A27, c27, rfl, new, hb⟩
  have hB27 := kcall (kalloc hB26 _) hb
  replace r1 := (r1.alloc _).bel hb
  replace r2 := (r2.alloc _).bel hb
  replace r3 := (r3.alloc _).bel hb
  replace r4 := (r4.alloc _).bel hb
  replace r5 := (r5.alloc _).bel hb
  clear hb hB26
  have p1 := new
  clear new
  go_wp2_with fail
  have hh := sCheck_any _ _ [(1, 3), (3, 5)] w27 p1
  rw [show chkS [(1, 3), (3, 5)] = 130 from by decide] at hh
  refine hh.mono ?_
  clear hh
  rintro e w28 ⟨rfl, hb⟩
  have hB28 := kcall hB27 hb
  replace r1 := (r1).bel hb
  replace r2 := (r2).bel hb
  replace r3 := (r3).bel hb
  replace r4 := (r4).bel hb
  replace r5 := (r5).bel hb
  clear p1
  clear hb hB27
  go_wp2_with fail
  refine (of_lit _ _ [(0, 1099511627776)] 2 1 rfl rfl _ (Sl.lit bi 1 w28 3 _ _ 2 (fun _ _ => rfl) rfl rfl (by decide)) (by decide)).mono ?_
  rintro e w29 ⟨A29, c29, rfl, new, hb⟩
  have hB29 := kcall (kalloc hB28 _) hb
  replace r1 := (r1.alloc _).bel hb
  replace r2 := (r2.alloc _).bel hb
  replace r3 := (r3.alloc _).bel hb
  replace r4 := (r4.alloc _).bel hb
  replace r5 := (r5.alloc _).bel hb
  clear hb hB28
  have p1 := new
  clear new
  go_wp2_with fail
  have hh := sCheck_any _ _ [(0, 1099511627776)] w29 p1
  rw [show chkS [(0, 1099511627776)] = 0 from by decide] at hh
  refine hh.mono ?_
  clear hh
  rintro e w30 ⟨rfl, hb⟩
  have hB30 := kcall hB29 hb
  replace r1 := (r1).bel hb
  replace r2 := (r2).bel hb
  replace r3 := (r3).bel hb
  replace r4 := (r4).bel hb
  replace r5 := (r5).bel hb
  clear p1
  clear hb hB29
  go_wp2_with fail
  refine (sCheck_long 4097 4097 _ _ (by decide) (by decide)).mono ?_
  rintro e w31 ⟨rfl, hb⟩
  have hB31 := kcall (kalloc hB30 _) hb
  replace r1 := (r1.alloc _).bel hb
  replace r2 := (r2.alloc _).bel hb
  replace r3 := (r3.alloc _).bel hb
  replace r4 := (r4.alloc _).bel hb
  replace r5 := (r5.alloc _).bel hb
  clear hb hB30
  go_wp2_with fail
  refine (of_lit _ _ [(1, 5)] 2 1 rfl rfl _ (Sl.lit bi 1 w31 3 _ _ 2 (fun _ _ => rfl) rfl rfl (by decide)) (by decide)).mono ?_
  rintro e w32 ⟨A32, c32, rfl, new, hb⟩
  have hB32 := kcall (kalloc hB31 _) hb
  replace r1 := (r1.alloc _).bel hb
  replace r2 := (r2.alloc _).bel hb
  replace r3 := (r3.alloc _).bel hb
  replace r4 := (r4.alloc _).bel hb
  replace r5 := (r5.alloc _).bel hb
  clear hb hB31
  have p1 := new
  clear new
  go_wp2_with fail
  have hh := sSame_any _ _ _ _ [(1, 5)] [(1, 5)] w32 r1 p1
  rw [show decide (([(1, 5)] : List (Int × Int)) = [(1, 5)]) = true from by decide] at hh
  refine hh.mono ?_
  clear hh
  rintro e w33 ⟨rfl, hb⟩
  have hB33 := kcall hB32 hb
  clear r1
  replace r2 := (r2).bel hb
  replace r3 := (r3).bel hb
  replace r4 := (r4).bel hb
  replace r5 := (r5).bel hb
  clear p1
  clear hb hB32
  go_wp2_with fail
  refine (of_lit _ _ [(1, 3), (5, 9)] 4 2 rfl rfl _ (Sl.lit bi 1 w33 3 _ _ 4 (fun _ _ => rfl) rfl rfl (by decide)) (by decide)).mono ?_
  rintro e w34 ⟨A34, c34, rfl, new, hb⟩
  have hB34 := kcall (kalloc hB33 _) hb
  replace r2 := (r2.alloc _).bel hb
  replace r3 := (r3.alloc _).bel hb
  replace r4 := (r4.alloc _).bel hb
  replace r5 := (r5.alloc _).bel hb
  clear hb hB33
  have p1 := new
  clear new
  go_wp2_with fail
  have hh := sSame_any _ _ _ _ [(1, 3), (5, 9)] [(1, 3), (5, 9)] w34 r3 p1
  rw [show decide (([(1, 3), (5, 9)] : List (Int × Int)) = [(1, 3), (5, 9)]) = true from by decide] at hh
  refine hh.mono ?_
  clear hh
  rintro e w35 ⟨rfl, hb⟩
  have hB35 := kcall hB34 hb
  replace r2 := (r2).bel hb
  clear r3
  replace r4 := (r4).bel hb
  replace r5 := (r5).bel hb
  clear p1
  clear hb hB34
  go_wp2_with fail
  refine (of_lit _ _ [(1, 9), (20, 30)] 4 2 rfl rfl _ (Sl.lit bi 1 w35 3 _ _ 4 (fun _ _ => rfl) rfl rfl (by decide)) (by decide)).mono ?_
  rintro e w36 ⟨A36, c36, rfl, new, hb⟩
  have hB36 := kcall (kalloc hB35 _) hb
  replace r2 := (r2.alloc _).bel hb
  replace r4 := (r4.alloc _).bel hb
  replace r5 := (r5.alloc _).bel hb
  clear hb hB35
  have p1 := new
  clear new
  go_wp2_with fail
  have hh := sSame_any _ _ _ _ [(1, 9), (20, 30)] [(1, 9), (20, 30)] w36 r4 p1
  rw [show decide (([(1, 9), (20, 30)] : List (Int × Int)) = [(1, 9), (20, 30)]) = true from by decide] at hh
  refine hh.mono ?_
  clear hh
  rintro e w37 ⟨rfl, hb⟩
  have hB37 := kcall hB36 hb
  replace r2 := (r2).bel hb
  clear r4
  replace r5 := (r5).bel hb
  clear p1
  clear hb hB36
  go_wp2_with fail
  refine (of_lit _ _ [(1, 2), (4, 5), (8, 9)] 6 3 rfl rfl _ (Sl.lit bi 1 w37 3 _ _ 6 (fun _ _ => rfl) rfl rfl (by decide)) (by decide)).mono ?_
  rintro e w38 ⟨A38, c38, rfl, new, hb⟩
  have hB38 := kcall (kalloc hB37 _) hb
  replace r2 := (r2.alloc _).bel hb
  replace r5 := (r5.alloc _).bel hb
  clear hb hB37
  have p1 := new
  clear new
  go_wp2_with fail
  have hh := sSame_any _ _ _ _ [(1, 2), (4, 5), (8, 9)] [(1, 2), (4, 5), (8, 9)] w38 r5 p1
  rw [show decide (([(1, 2), (4, 5), (8, 9)] : List (Int × Int)) = [(1, 2), (4, 5), (8, 9)]) = true from by decide] at hh
  refine hh.mono ?_
  clear hh
  rintro e w39 ⟨rfl, hb⟩
  have hB39 := kcall hB38 hb
  replace r2 := (r2).bel hb
  clear r5
  clear p1
  clear hb hB38
  go_wp2
  go_ret
  exact ⟨rfl, hB39⟩
end Go.Proofs.Ytbfgbkblblnbhaa

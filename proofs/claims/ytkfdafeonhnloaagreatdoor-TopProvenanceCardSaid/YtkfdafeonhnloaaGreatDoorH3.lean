/-
 The law's helpers: deps33, without33, alike33.
-/
import Derived.Test.YtkfdafeonhnloaaGreatDoorGM25
import Derived.Test.YtkfdafeonhnloaaGreatDoorF9
import Derived.Test.YtkfdafeonhnloaaGreatDoorGM29
namespace Go.Proofs.YtkfdafeonhnloaaGreatDoor
open Go.RowKit Go.Shelf Go.Mine Go.Mine.C
attribute [local go_sem] Oper.semAt_some
set_option maxRecDepth 100000 in
set_option maxHeartbeats 4000000 in
theorem deps7 (A : Option Addr) (c : Nat) (ts : List TargH) (w : World) (ht : Sl targC 3 w A c ts) (hto : ∀ x ∈ ts, TargOk w x) (hl : ts.length ≤ 1000000) (hd : ∀ x ∈ ts, x.deps.length ≤ 1000000) :
  Calls Tryz.prog 7 #[.slice A ts.length c] w fun e w' => ∃ v es, e = .returned v ∧ Pv.OwnR w' w.heap.size v es ∧ es.map (fun e => e.2.2) = ts.map (fun x => x.deps) ∧ Below w.heap.size w w' := by
 obtain ⟨i0, hi, hz0, hz1, hz2⟩ := info_parts Pv.Try_info31
 have HI := hide hi
 obtain ⟨i3, hi3, hy0, hy1, hy2⟩ := info_parts Tryz_infoA3
 have HI3 := hide hi3
 have HT := hide ht
 have HTO := hide hto
 have HD := hide hd
 have hle := ht.le
 have hmx := ht.max
 clear hi hi3 ht hto hd
 go_enter Tryz.func7, Tryz.ntmps7
 go_wp2_with fail
 go_loopw [2, 7] (fun v i wr => ∃ (k : Nat) (es : List Hd), k ≤ ts.length ∧ i = .int .i64 k ∧ Hid (es.map (fun e => e.2.2) = (ts.take k).map (fun x => x.deps)) ∧ Hid (Pv.OwnR wr w.heap.size v es) ∧ Hid (Below w.heap.size w wr)) (fun _ i _ => ts.length - (Go.Mine.nI i).toNat)
 case atStart => exact ⟨0, [], Nat.zero_le _, rfl, hide rfl, hide ⟨OwnL.nil _ _ _ _ _, by simp⟩, hide (Below.refl _ _)⟩
 case round =>
  obtain ⟨k, es, hk, rfl, HES, HO, HB⟩ := hrel
  have hN := HB.out.size
  have hel : es.length = k := by
   have := congrArg List.length HES.out
   rw [List.length_map, List.length_map, List.length_take] at this
   omega
  by_cases hlt : k < ts.length
  ·obtain ⟨x, b, off, hx, _, hA, hbw, p0, p1, p2⟩ := targ_at (HT.out.bel HB.out) hlt
   have HX := hide (HTO.out x (List.mem_of_getElem? hx))
   have hdl := HD.out x (List.mem_of_getElem? hx)
   have HN1 := hide (show es.map (fun e => e.2.2) ++ [x.deps] = (ts.take (k + 1)).map (fun x => x.deps) by rw [HES.out, take_of_get hx]; simp)
   obtain ⟨A0, c0, hve, _⟩ := HO.out.own.sl
   generalize hn0 : es.length = n0 at hve hel
   subst hve
   have HN0 := hide hn0
   have HEL := hide hel
   have HDL := hide hdl
   have hb2 : ∀ o o', Below wr.heap.size wr ((wr.alloc o).alloc o') := fun o o' => kalloc (kalloc (Below.refl _ _) _) _
   have HXS := hide (fun o o' => show Sl ic 1 ((wr.alloc o).alloc o') x.dA x.dC x.deps from (HX.out.bel HB.out).bel (hb2 o o'))
   cases hA
   clear hx hn0 hdl hel
   go_wp2_with (at_builtin; refine wpList_append rfl (.tmp 12) (.tmp 14) 31 rfl rfl rfl (run_extend (f := ic) (base := w.heap.size) (l1 := []) (l2 := x.deps) Tryz.underlying31 HI3.out hy0 hy1 hy2 rfl (by decide) (OwnL.fresh' (by simp) (by omega)) (HXS.out _ _) (ones141 _) ?_ ?_ ?_) ?_)
   ·have := HDL.out; simp only [List.length_nil, maxLen]; omega
   ·have := HDL.out; simp only [List.length_nil]; omega
   ·first | omega | (simp; omega)
   ·intro v9 w9 hO9 hg9 hat9
    (try simp only [List.nil_append] at hO9)
    have hb9 : Below wr.heap.size wr w9 := by
     refine Below.grown (hb2 (.cells #[.string x.text, .slice x.dA x.deps.length x.dC, .int .i64 x.term] 42) (.cells #[] 3)) hg9 (by simp; omega) (fun g hg => ?_)
     simp [Value.ownBlock] at hg
     omega
    have hO1 := HO.out.bel hb9
    obtain ⟨A9, c9, rfl, _⟩ := hO9.sl
    have HO9 := hide hO9
    have HB9 := hide (kcall HB.out hb9)
    have HO1 := hide hO1
    have HZ9 := hide hb9.size
    have hz9 := HB9.out.size
    have hown1 : OwnL hc 1 31 w9 w.heap.size (.slice A0 n0 c0) es := hO1.own
    have HOWN1 := hide hown1
    clear hO9 hg9 hat9 hb9 hO1 hown1 HXS HX HO p0 p1 p2 hbw
    go_wp2_with (at_builtin; refine wpList_push (f := hc) (y := ((A9, c9, x.deps) : Hd)) (l := es) rfl (.tmp 11) (.tmp 16) 32 rfl Tryz.underlying32 HI.out hz0 hz1 hz2 rfl (by decide) rfl (HOWN1.out.alloc _) rfl (heap_new _ _) rfl rfl ?_ ?_ ?_ ?_ ?_)
    ·simp [Value.oneCell', hc]
    ·have := HEL.out; have := HN0.out; simp only [maxLen]; omega
    ·have := HEL.out; have := HN0.out; omega
    ·first | omega | (simp; omega)
    ·intro v6 w6 hO6 hgr hat
     have R6 := hide (Pv.OwnR.push (x := (A9, c9, x.deps)) (HO1.out.bel ((Below.refl _ _).alloc (Nat.le_refl _) (Obj.cells #[.slice A9 x.deps.length c9] 31))) (HO9.out.alloc _) hO6 hgr)
     have hb6 := hide (Below.grown (HB9.out.alloc hz9 (Obj.cells #[.slice A9 x.deps.length c9] 31)) hgr (by simp; omega) (fun g hg => (HOWN1.out.blk hg).1))
     clear hO6 hgr hat HO9 HO1 HOWN1
     go_wp2
     go_roundw
     case rel => exact ⟨k + 1, es ++ [(A9, c9, x.deps)], by omega, by go_num, hide (by rw [← HN1.out]; simp), R6, hb6⟩
     case measure => simp [Go.Mine.nI]; omega
  ·obtain rfl : k = ts.length := by omega
   have hes := HES.out
   rw [List.take_length] at hes
   obtain ⟨A0, c0, hve, _⟩ := HO.out.own.sl
   generalize hn0 : es.length = n0 at hve hel
   subst hve
   have HE := hide hes
   clear hes hn0 hel HES
   go_wp2
   go_ret
   exact ⟨_, es, rfl, HO.out, HE.out, HB.out⟩
set_option maxRecDepth 100000 in
set_option maxHeartbeats 4000000 in
theorem without18 (A : Option Addr) (c : Nat) (ts : List TargH) (i : Int) (w : World) (ht : Sl targC 3 w A c ts) (hto : ∀ x ∈ ts, TargOk w x) (hl : ts.length ≤ 1000000) :
  Calls Tryz.prog 18 #[.slice A ts.length c, .int .i64 i] w fun e w' => ∃ v us, e = .returned v ∧ OwnL targC 3 42 w' w.heap.size v us ∧ us = ts.filter (fun x => !x.deps.contains i) ∧ Below w.heap.size w w' := by
 obtain ⟨i0, hi, hz0, hz1, hz2⟩ := info_parts Tryz_infoA42
 have HI := hide hi
 have HT := hide ht
 have HTO := hide hto
 have hle := ht.le
 have hmx := ht.max
 clear hi ht hto
 go_enter Tryz.func18, Tryz.ntmps18
 go_wp2_with fail
 go_loopw [4, 9] (fun v iv wr => ∃ (k : Nat), k ≤ ts.length ∧ iv = .int .i64 k ∧ Hid (OwnL targC 3 42 wr w.heap.size v ((ts.take k).filter (fun x => !x.deps.contains i))) ∧ Hid (Below w.heap.size w wr)) (fun _ iv _ => ts.length - (Go.Mine.nI iv).toNat)
 case atStart => exact ⟨0, Nat.zero_le _, rfl, hide (OwnL.nil _ _ _ _ _), hide (Below.refl _ _)⟩
 case round =>
  obtain ⟨k, hk, rfl, HO, HB⟩ := hrel
  have hN := HB.out.size
  by_cases hlt : k < ts.length
  ·obtain ⟨x, b, off, hx, _, hA, hbw, p0, p1, p2⟩ := targ_at (HT.out.bel HB.out) hlt
   have hb1 := fun o => kalloc (Below.refl wr.heap.size wr) o
   have K11 := hide (fun o => Pv.has21_any x.dA x.dC x.deps i (wr.alloc o) (((HTO.out x (List.mem_of_getElem? hx)).bel HB.out).bel (hb1 o)))
   have hfl : ((ts.take k).filter (fun x => !x.deps.contains i)).length ≤ k := by
    have := List.length_filter_le (fun x : TargH => !x.deps.contains i) (ts.take k)
    rw [List.length_take] at this
    omega
   have HTK := hide (take_of_get hx)
   have HBX := hide (fun o => kcall HB.out (hb1 o))
   cases hA
   clear hx
   cases hc : x.deps.contains i
   ·rw [hc] at K11
    have HNX := hide (show (ts.take (k + 1)).filter (fun x => !x.deps.contains i) = (ts.take k).filter (fun x => !x.deps.contains i) ++ [x] by rw [HTK.out, List.filter_append]; simp only [List.filter_cons, List.filter_nil, hc]; rfl)
    generalize (ts.take k).filter (fun x => !x.deps.contains i) = La at *
    clear hc HTK
    go_wp2_with fail
    refine (K11.out _).mono ?_
    rintro e w1 ⟨rfl, hw1⟩
    subst hw1
    go_wp2_with (at_builtin; refine wpList_push (f := targC) (y := x) (l := La) rfl (.tmp 18) (.tmp 20) 34 rfl Tryz.underlying34 HI.out hz0 hz1 hz2 rfl (by decide) rfl ((HO.out.alloc _).alloc _) rfl (new_row1 _ _ _) rfl rfl ?_ ?_ ?_ ?_ ?_)
    ·simp [Value.oneCell', targC]
    ·simp only [maxLen]; omega
    ·omega
    ·first | omega | (simp; omega)
    ·intro v6 w6 hO6 hgr hat
     have H6 := hide hO6
     have hb6 := hide (Below.grown ((HBX.out (.cells #[.string x.text, .slice x.dA x.deps.length x.dC, .int .i64 x.term] 42)).alloc (by simp; omega) (Obj.cells #[.string x.text, .slice x.dA x.deps.length x.dC, .int .i64 x.term] 42)) hgr (by simp; omega) (fun g hg => (HO.out.blk hg).1))
     clear hO6 hgr hat
     go_wp2
     go_roundw
     case rel => exact ⟨k + 1, by omega, by go_num, hide (by rw [HNX.out]; exact H6.out), hb6⟩
     case measure => simp [Go.Mine.nI]; omega
   ·rw [hc] at K11
    have HNX := hide (show (ts.take (k + 1)).filter (fun x => !x.deps.contains i) = (ts.take k).filter (fun x => !x.deps.contains i) by rw [HTK.out, List.filter_append]; simp only [List.filter_cons, List.filter_nil, hc]; simp)
    generalize (ts.take k).filter (fun x => !x.deps.contains i) = La at *
    clear hc HTK
    go_wp2_with fail
    refine (K11.out _).mono ?_
    rintro e w1 ⟨rfl, hw1⟩
    subst hw1
    go_wp2
    go_roundw
    case rel => exact ⟨k + 1, by omega, by go_num, hide (by rw [HNX.out]; exact HO.out.alloc _), hide (HBX.out _)⟩
    case measure => simp [Go.Mine.nI]; omega
  ·obtain rfl : k = ts.length := by omega
   have hO := HO.out
   rw [List.take_length] at hO
   obtain ⟨A0, c0, hve, _⟩ := hO.sl
   have HF := hide hO
   generalize hLa : ts.filter (fun x => !x.deps.contains i) = La at *
   generalize hn0 : La.length = n0 at hve
   subst hve
   have HLA := hide hLa
   clear hO hn0 HO hLa
   go_wp2
   go_ret
   exact ⟨_, La, rfl, HF.out, HLA.out.symm, HB.out⟩
set_option maxRecDepth 100000 in
set_option maxHeartbeats 4000000 in
theorem alike14 (A B : Option Addr) (c d : Nat) (xs ys : List ItemH) (w : World) (hx : Sl itemC 6 w A c xs) (hy : Sl itemC 6 w B d ys) :
  Calls Tryz.prog 14 #[.slice A xs.length c, .slice B ys.length d] w fun e w' => (∃ b, e = .returned (.bool b) ∧ (b = true → xs.map (fun x => keyI x.m) = ys.map (fun x => keyI x.m))) ∧ Below w.heap.size w w' := by
 have a1 := hx.le
 have a2 := hx.max
 have b1 := hy.le
 have b2 := hy.max
 have HX := hide hx
 have HY := hide hy
 clear hx hy
 by_cases hl : xs.length = ys.length
 ·have g0 : ((xs.length : Int) != (ys.length : Int)) = false := by simp [hl]
  have HL := hide hl
  clear hl
  go_enter Tryz.func14, Tryz.ntmps14
  go_wp2_with fail
  go_loopw [13] (fun i wr => ∃ (k : Nat), k ≤ xs.length ∧ i = .int .i64 k ∧ Hid ((xs.take k).map (fun x => keyI x.m) = (ys.take k).map (fun x => keyI x.m)) ∧ Hid (Below w.heap.size w wr)) (fun i _ => xs.length - (Go.Mine.nI i).toNat)
  case atStart => exact ⟨0, Nat.zero_le _, rfl, hide rfl, hide (Below.refl _ _)⟩
  case round =>
   obtain ⟨k, hk, rfl, HT, HB⟩ := hrel
   by_cases hlt : k < xs.length
   ·obtain ⟨x, ba, oa, hxk, _, hA, hba, p0, p1, p2, p3, _, _⟩ := item_at (HX.out.bel HB.out) hlt
    obtain ⟨y, bb, ob, hyk, _, hBB, hbb, q0, q1, q2, q3, _, _⟩ := item_at (HY.out.bel HB.out) (show k < ys.length by rw [← HL.out]; exact hlt)
    have hkb : (k : Int) < ys.length := by have := HL.out; omega
    have HXK := hide hxk
    have HYK := hide hyk
    cases hA
    cases hBB
    clear hxk hyk
    by_cases h0 : x.cat = y.cat
    ·have e0 : (x.cat != y.cat) = false := by simp [h0]
     by_cases h1 : x.from_ = y.from_
     ·have e1 : (x.from_ != y.from_) = false := by simp [h1]
      by_cases h2 : x.until_ = y.until_
      ·have e2 : (x.until_ != y.until_) = false := by simp [h2]
       by_cases h3 : x.cost = y.cost
       ·have e3 : (x.cost != y.cost) = false := by simp [h3]
        have HN := hide (show (xs.take (k + 1)).map (fun x => keyI x.m) = (ys.take (k + 1)).map (fun x => keyI x.m) by
         rw [take_of_get HXK.out, take_of_get HYK.out, List.map_append, List.map_append, HT.out]
         show _ ++ [(x.from_, x.until_)] = _ ++ [(y.from_, y.until_)]
         rw [h1, h2])
        clear h0 h1 h2 h3
        go_wp2_with fail
        refine wp_still_all (by kernel_rfl) (by kernel_rfl) ?_
        repeat (first | ((with_reducible refine wpStill_step (fun K hK => ?_)); go_simp; (try go_bits); (with_reducible refine hK _ ?_); clear hK K) | ((with_reducible refine wpStill_step (fun K hK => ?_)); go_simp; rw [if_neg (by simp [undef])]; (with_reducible refine hK _ ?_); clear hK K))
        (with_reducible refine wpStill_nil ?_)
        go_wp2
        go_roundw
        case rel => exact ⟨k + 1, by omega, by go_num, HN, hide HB.out.drew⟩
        case measure => simp [Go.Mine.nI]; omega
       ·have e3 : (x.cost != y.cost) = true := by rw [bne_iff_ne]; exact h3
        clear h0
        clear h1
        clear h2
        clear h3
        go_wp2_with fail
        refine wp_still_all (by kernel_rfl) (by kernel_rfl) ?_
        repeat (first | ((with_reducible refine wpStill_step (fun K hK => ?_)); go_simp; (try go_bits); (with_reducible refine hK _ ?_); clear hK K) | ((with_reducible refine wpStill_step (fun K hK => ?_)); go_simp; rw [if_neg (by simp [undef])]; (with_reducible refine hK _ ?_); clear hK K))
        (with_reducible refine wpStill_nil ?_)
        go_wp2
        go_ret
        exact ⟨⟨false, rfl, fun h => by cases h⟩, HB.out.drew⟩
      ·have e2 : (x.until_ != y.until_) = true := by rw [bne_iff_ne]; exact h2
       clear h0
       clear h1
       clear h2
       go_wp2_with fail
       refine wp_still_all (by kernel_rfl) (by kernel_rfl) ?_
       repeat (first | ((with_reducible refine wpStill_step (fun K hK => ?_)); go_simp; (try go_bits); (with_reducible refine hK _ ?_); clear hK K) | ((with_reducible refine wpStill_step (fun K hK => ?_)); go_simp; rw [if_neg (by simp [undef])]; (with_reducible refine hK _ ?_); clear hK K))
       (with_reducible refine wpStill_nil ?_)
       go_wp2
       go_ret
       exact ⟨⟨false, rfl, fun h => by cases h⟩, HB.out.drew⟩
     ·have e1 : (x.from_ != y.from_) = true := by rw [bne_iff_ne]; exact h1
      clear h0
      clear h1
      go_wp2_with fail
      refine wp_still_all (by kernel_rfl) (by kernel_rfl) ?_
      repeat (first | ((with_reducible refine wpStill_step (fun K hK => ?_)); go_simp; (try go_bits); (with_reducible refine hK _ ?_); clear hK K) | ((with_reducible refine wpStill_step (fun K hK => ?_)); go_simp; rw [if_neg (by simp [undef])]; (with_reducible refine hK _ ?_); clear hK K))
      (with_reducible refine wpStill_nil ?_)
      go_wp2
      go_ret
      exact ⟨⟨false, rfl, fun h => by cases h⟩, HB.out.drew⟩
    ·have e0 : (x.cat != y.cat) = true := by rw [bne_iff_ne]; exact h0
     clear h0
     go_wp2_with fail
     refine wp_still_all (by kernel_rfl) (by kernel_rfl) ?_
     repeat (first | ((with_reducible refine wpStill_step (fun K hK => ?_)); go_simp; (try go_bits); (with_reducible refine hK _ ?_); clear hK K) | ((with_reducible refine wpStill_step (fun K hK => ?_)); go_simp; rw [if_neg (by simp [undef])]; (with_reducible refine hK _ ?_); clear hK K))
     (with_reducible refine wpStill_nil ?_)
     go_wp2
     go_ret
     exact ⟨⟨false, rfl, fun h => by cases h⟩, HB.out.drew⟩
   ·obtain rfl : k = xs.length := by omega
    have HE := hide (show xs.map (fun x => keyI x.m) = ys.map (fun x => keyI x.m) by
     have h := HT.out
     rw [List.take_of_length_le (Nat.le_refl _), List.take_of_length_le (by rw [HL.out]; exact Nat.le_refl _)] at h
     exact h)
    go_wp2
    go_ret
    exact ⟨⟨true, rfl, fun _ => HE.out⟩, HB.out⟩
 ·have g0 : ((xs.length : Int) != (ys.length : Int)) = true := by rw [bne_iff_ne]; omega
  go_enter Tryz.func14, Tryz.ntmps14
  go_wp2
  go_ret
  exact ⟨⟨false, rfl, fun h => by cases h⟩, Below.refl _ _⟩
end Go.Proofs.YtkfdafeonhnloaaGreatDoor

/-
  queue.Deny, where jobs are right.
  queue: Deny, both.
-/
import Derived.Test.YtnngemgfochodaaGreatJKeys
import Derived.Test.YtnngemgfochodaaGreatTM12
import Derived.Test.YtnngemgfochodaaGreatTM7
import Derived.Deep.RegionHeld3
import Derived.BigRegion
namespace Go.Proofs.YtnngemgfochodaaGreat.J
open Go.Proofs.YtnngemgfochodaaGreat
open Go.RowKit Go.Maps Go.Sort Go.Shelf Go.Mine Go.Mine.Q
attribute [local go_sem] Oper.semAt_some
/-- slices.Sort of the call's own slice of numbers -/
theorem sort39 (base : Nat) (v : Value) (ss : List Int) (w : World) (hO : OwnL ic 1 3 w base v ss) (hss : ss.length ≤ 1000000) :
    Calls Tryz.prog 58 #[v] w fun e w' => e = .returned (.tuple #[]) ∧ OwnL ic 1 3 w' base v (ss.mergeSort (fun x y => decide (x ≤ y))) ∧ w.grownBy w' v.ownBlock := by
  obtain ⟨⟨hl, h1⟩, hs⟩ := hO
  rcases h1 with ⟨rfl, hn⟩ | ⟨g, cap, cur, rfl, hg, hh, r1, r2, r3, r4⟩
  · obtain rfl : ss = [] := List.length_eq_zero_iff.1 hn
    refine (AnyM.slices_Sort_int_none sortA none 0 w).mono ?_
    rintro e w' ⟨rfl, rfl⟩
    exact ⟨rfl, by simpa using OwnL.nil ic 1 3 w' base, World.grownBy.refl _ _⟩
  · have e1 : ss.flatMap ic = ss.map encZ := by rw [List.map_eq_flatMap]; rfl
    rw [e1] at r4
    have hH : Holds encZ w g 0 ss.toArray := holds_of_block_i hh (by simpa using r4)
    have hgl : g < w.heap.size := (Array.getElem?_eq_some_iff.1 hh).1
    refine (AnyM.slices_Sort_int sortA g 0 cap ss w hH hgl (by omega)).mono ?_
    rintro e w' ⟨rfl, k, os, rfl⟩
    refine ⟨rfl, ⟨?_, fun _ _ => rfl⟩, grownBy_sorted_i _⟩
    have := ownsRow_sorted_i (ss := ss) (ts := ss.mergeSort (fun x y => decide (x ≤ y))) (os := os) (n := k) (by simp) hg hh r1 r2 r3
    rw [show (ss.mergeSort (fun x y => decide (x ≤ y))).flatMap ic = (ss.mergeSort (fun x y => decide (x ≤ y))).map encZ by rw [List.map_eq_flatMap]; rfl]
    rw [List.length_mergeSort]
    exact this
theorem sorted_le (ss : List Int) : (ss.mergeSort (fun x y => decide (x ≤ y))).Pairwise (· ≤ ·) := by
  have tr : ∀ a b c : Int, decide (a ≤ b) = true → decide (b ≤ c) = true → decide (a ≤ c) = true := fun a b c h1 h2 => by simp only [decide_eq_true_eq] at *; exact Int.le_trans h1 h2
  have to : ∀ a b : Int, (decide (a ≤ b) || decide (b ≤ a)) = true := fun a b => by simp only [Bool.or_eq_true, decide_eq_true_eq]; exact Int.le_total a b
  exact (List.pairwise_mergeSort (le := fun x y : Int => decide (x ≤ y)) tr to ss).imp fun h => of_decide_eq_true h
theorem ic_onel (l : List Int) : ∀ x ∈ l, ∀ u ∈ ic x, u.oneCell' = true := by intro x _ u hu; simp [ic] at hu; subst hu; rfl
/-- two rows of one call, apart -/
structure Two (w : World) (base : Nat) (v u : Value) (F U : List Int) : Prop where
  a : OwnL ic 1 3 w base v F
  b : OwnL ic 1 3 w base u U
  ne : ∀ q, v.ownBlock = some q → u.ownBlock ≠ some q
theorem Two.bel {w w' : World} {base : Nat} {v u : Value} {F U : List Int} (h : Two w base v u F U) (hb : Below w.heap.size w w') : Two w' base v u F U := ⟨h.a.bel hb, h.b.bel hb, h.ne⟩
def DenyE (l : List Jb) (w : World) (e : Ending) (w' : World) : Prop := e = .returned (.tuple #[.agg #[.int .i64 (qA (denyQ l)), .int .i64 (qB (denyQ l))], .bool (denyQ l).isSome, .int .i64 (chk l)]) ∧ Below w.heap.size w w'
set_option maxRecDepth 100000 in
set_option maxHeartbeats 8000000 in
theorem deny17_good (A : Option Addr) (c : Nat) (l : List Jb) (w : World) (hS : Sl jbC 5 w A c l) (hz : chk l = 0) : Calls Tryz.prog 32 #[.slice A l.length c] w (DenyE l w) := by
  obtain ⟨hr, h64, hok⟩ := right_of hz
  have hlc := hS.le
  have hc := hS.max
  have HS := hide hS
  have HR := hide hr
  have K27 := hide (fun w (h : Sl jbC 5 w A c l) => by have := check27 A c l w h; rw [hz] at this; exact this)
  have HE := hide (show denyQ l = denyR l by unfold denyQ; rw [if_pos hz])
  have HZ := hide hz
  obtain ⟨i0, hi, hz0, hz1, hz2⟩ := info_parts Try_info3
  have HI := hide hi
  clear hS hr hok hz hi
  go_enter Tryz.func32, Tryz.ntmps32
  go_wp2_with fail
  have a0 : Blk (w.alloc (.cells #[.int .i64 0, .int .i64 0] 76)) w.heap.size 76 #[.int .i64 0, .int .i64 0] := Blk.new _ _ _
  have hb0 : Below w.heap.size w (w.alloc (.cells #[.int .i64 0, .int .i64 0] 76)) := kalloc (Below.refl _ _) _
  refine (K27.out _ (HS.out.bel hb0)).mono ?_
  rintro e w3 ⟨rfl, hb3⟩
  have A3 := hide (a0.bel hb3)
  have B3 := hide (kcall hb0 hb3)
  clear a0 hb0 hb3 K27
  go_wp2
  go_loopw [6, 7, 23] (fun v6 v7 v23 wr => ∃ (k : Nat), k ≤ l.length ∧ v23 = .int .i64 k ∧ Hid (Two wr (w.heap.size + 1) v6 v7 ((l.take k).map (·.ready)) ((l.take k).map (·.due))) ∧ Hid (Blk wr w.heap.size 76 #[.int .i64 0, .int .i64 0]) ∧ Hid (Below w.heap.size w wr)) (fun _ _ i _ => l.length - (nI i).toNat)
  case atStart => exact ⟨0, Nat.zero_le _, rfl, ⟨OwnL.nil _ _ _ _ _, OwnL.nil _ _ _ _ _, by simp [Value.ownBlock]⟩, A3, B3⟩
  case round =>
    clear A3 B3
    obtain ⟨k, hk, rfl, HT, HA, HB⟩ := hrel
    by_cases hlt : k < l.length
    · obtain ⟨x, b, off, hx, _, rfl, hbw, d0, d1, d2, d3, d4⟩ := Sl.jb_at (HS.out.bel HB.out) hlt
      have HX := hide (take_of_get hx)
      clear hx
      go_wp2_with fail
      have hwr := HB.out.size
      have HL : Hid ((l.take k).length = k) := hide (by simp; omega)
      refine at_world (fun W => Blk W wr.heap.size 71 #[.int .i64 x.no, .int .i64 x.ready, .int .i64 x.due, .int .i64 x.need, .bool x.alt] ∧ Two W (w.heap.size + 1) u6 u7 ((l.take k).map (·.ready)) ((l.take k).map (·.due)) ∧ Blk W w.heap.size 76 #[.int .i64 0, .int .i64 0] ∧ Below w.heap.size w W ∧ (∀ q, u6.ownBlock = some q → q < wr.heap.size) ∧ (∀ q, u7.ownBlock = some q → q < wr.heap.size))
        ⟨Blk.new _ _ _, HT.out.bel (kalloc (Below.refl _ _) _), HA.out.alloc _, kalloc HB.out _, fun q hq => (HT.out.a.blk hq).2.1, fun q hq => (HT.out.b.blk hq).2.1⟩ ?_
      clear HT HA HB d0 d1 d2 d3 d4 hbw
      rintro W ⟨hX, hT, hA, hB, hv6, hv7⟩
      have x1 := hX.cell (v := .int .i64 x.ready) 1 rfl
      have x2 := hX.cell (v := .int .i64 x.due) 2 rfl
      have xl := hX.lt
      have HX1 := hX
      have HF : Hid ((l.take (k + 1)).map (·.ready) = (l.take k).map (·.ready) ++ [x.ready]) := hide (by rw [HX.out]; simp)
      have HU : Hid ((l.take (k + 1)).map (·.due) = (l.take k).map (·.due) ++ [x.due]) := hide (by rw [HX.out]; simp)
      have hF : ((l.take k).map (·.ready)).length ≤ 64 := by simp; omega
      have hU : ((l.take k).map (·.due)).length ≤ 64 := by simp; omega
      generalize (l.take k).map (·.ready) = F at *
      generalize (l.take k).map (·.due) = U at *
      have hW := hB.size
      have HTa := hide hT.a
      have HTb := hide hT.b
      have HTn := hide hT.ne
      have HA := hide hA
      have HB := hide hB
      have HV6 := hide hv6
      have HV7 := hide hv7
      clear hT hA hB HX hX hv6 hv7 HX1 HL
      go_region_held3 (fun w' => w'.cell? ⟨wr.heap.size, 1, none⟩ = some (.int .i64 x.ready) ∧ w'.cell? ⟨wr.heap.size, 2, none⟩ = some (.int .i64 x.due))
        (first | exact ⟨x1, x2⟩ | exact ⟨f1, f2⟩ | go_keep)
        (first
          | (refine step_append (v := u6) (u := .slice (some ⟨_, 0, none⟩) 1 1) rfl (.tmp 27) (.tmp 30) 24 rfl rfl rfl (run_extend (f := ic) (base := w.heap.size + 1) (l1 := F) (l2 := [x.ready]) Tryz.underlying24 HI.out hz0 hz1 hz2 rfl (by decide) (by first | exact (HTa.out.alloc _).drew | exact ((HTa.out.alloc _).alloc _).drew) (by first | exact Sl.one (Blk.new' rfl).drew rfl rfl (by decide) (by decide) | exact Sl.one ((Blk.new' rfl).alloc _).drew rfl rfl (by decide) (by decide) | exact Sl.one (Blk.new' (by simp)).drew rfl rfl (by decide) (by decide)) (ic_onel _) (by simp [maxLen]; omega) (by simp; omega) (by simp <;> omega)) ?_
             rintro v' w' ⟨gO, gG, gB⟩
             have f1 := gcell (b := wr.heap.size) (o := 1) (v := .int .i64 x.ready) gG (by simp; omega) (fun e => by have := HV6.out _ e.symm; omega) (by simp [go_sem, x1, xl])
             have f2 := gcell (b := wr.heap.size) (o := 2) (v := .int .i64 x.due) gG (by simp; omega) (fun e => by have := HV6.out _ e.symm; omega) (by simp [go_sem, x2, xl])
             have gN : W.heap.size ≤ w'.heap.size := Nat.le_trans (by simp <;> omega) gG.size
             have gNl : wr.heap.size < w'.heap.size := by omega
             have gU : OwnL ic 1 3 w' (w.heap.size + 1) u7 U := OwnL.grown (by first | exact (HTb.out.alloc _).drew | exact ((HTb.out.alloc _).alloc _).drew) gG (fun q hq e => HTn.out q e.symm hq)
             have gA : Blk w' w.heap.size 76 #[.int .i64 0, .int .i64 0] := Blk.grown (by first | exact (HA.out.alloc _).drew | exact ((HA.out.alloc _).alloc _).drew) gG (fun e => by have := (HTa.out.blk e.symm).1; omega)
             have gBel : Below w.heap.size w w' := Below.grown (by first | exact (kalloc HB.out _).drew | exact (kalloc (kalloc HB.out _) _).drew) gG (by simp <;> omega) (fun k hk => by have := (HTa.out.blk hk).1; omega)
             try (have xB := Blk.grown (b := W.heap.size + 1) (cs := #[.int .i64 x.due]) (ty := 3) (Blk.drew (Blk.new' (by simp))) gG (fun e => by have := HV6.out _ e.symm; omega))
             try (have xB := Blk.grown (b := W.heap.size) (cs := #[.int .i64 x.due]) (ty := 3) (Blk.drew (Blk.alloc (Blk.new' (by simp)) _)) gG (fun e => by have := HV6.out _ e.symm; omega)))
          | (refine step_append (v := u7) (u := .slice (some ⟨_, 0, none⟩) 1 1) rfl (.tmp 32) (.tmp 35) 24 rfl rfl rfl (run_extend (f := ic) (base := w.heap.size + 1) (l1 := U) (l2 := [x.due]) Tryz.underlying24 HI.out hz0 hz1 hz2 rfl (by decide) (by first | exact gU | exact gU.alloc _) (by first | exact Sl.one xB rfl rfl (by decide) (by decide) | exact Sl.one (Blk.new' rfl) rfl rfl (by decide) (by decide)) (ic_onel _) (by simp [maxLen]; omega) (by simp; omega) (by first | omega | (simp; omega))) ?_
             rintro v'' w'' ⟨gO2, gG2, gB2⟩
             have f1 := gcell (b := wr.heap.size) (o := 1) (v := .int .i64 x.ready) gG2 (by first | exact gNl | (simp; omega)) (fun e => by have := HV7.out _ e.symm; omega) (by first | exact f1 | simp [go_sem, f1, gNl])
             have f2 := gcell (b := wr.heap.size) (o := 2) (v := .int .i64 x.due) gG2 (by first | exact gNl | (simp; omega)) (fun e => by have := HV7.out _ e.symm; omega) (by first | exact f2 | simp [go_sem, f2, gNl])
             have gO3 : OwnL ic 1 3 w'' (w.heap.size + 1) v' (F ++ [x.ready]) := OwnL.grown (by first | exact gO | exact gO.alloc _) gG2 (fun q hq e => by
               rcases gB q hq with h | h
               · exact HTn.out q h e.symm
               · have := HV7.out q e.symm; first | omega | (simp at h; omega))
             have gA2 : Blk w'' w.heap.size 76 #[.int .i64 0, .int .i64 0] := Blk.grown (by first | exact gA | exact gA.alloc _) gG2 (fun e => by have := (HTb.out.blk e.symm).1; omega)
             have gBel2 : Below w.heap.size w w'' := Below.grown (by first | exact gBel | exact kalloc gBel _) gG2 (by first | omega | (simp; omega)) (fun k hk => by have := (HTb.out.blk hk).1; omega)
             have gNe : ∀ q, v'.ownBlock = some q → v''.ownBlock ≠ some q := fun q hq e => by
               have h0 := (gO.blk hq).2.1
               rcases gB2 q e with h | h
               · rcases gB q hq with h2 | h2
                 · exact HTn.out q h2 h
                 · have := HV7.out q h; first | omega | (simp at h2; omega)
               · first | omega | (simp at h; omega)))
      all_goals
        have HT2 := hide (show Two w'' (w.heap.size + 1) v' v'' ((l.take (k + 1)).map (·.ready)) ((l.take (k + 1)).map (·.due)) from ⟨by rw [HF.out]; exact gO3, by rw [HU.out]; exact gO2, gNe⟩)
        have HA2 := hide gA2
        have HB2 := hide gBel2
        clear gO gO2 gO3 gG gG2 gB gB2 gU gA gA2 gBel gBel2 gNe f1 f2 x1 x2 HTa HTb HTn HA HB HF HU
        go_wp2
        go_roundw
        case rel => exact ⟨k + 1, by omega, by go_num, HT2, HA2, HB2⟩
        case measure => simp [nI]; omega
    · obtain rfl : k = l.length := by omega
      have hT := HT.out
      rw [List.take_length] at hT
      obtain ⟨wl, hwl⟩ : ∃ x, x = wr := ⟨_, rfl⟩
      subst hwl
      have hlF : (l.map (·.ready)).length ≤ 64 := by simp; omega
      have hlU : (l.map (·.due)).length ≤ 64 := by simp; omega
      have HFN := hide (fun (F U : List Int) (hF : F.Perm (l.map (·.ready))) (hU : U.Perm (l.map (·.due))) => @deny_find l F U hF hU)
      generalize l.map (·.ready) = F0 at *
      generalize l.map (·.due) = U0 at *
      have hwz := HB.out.size
      have KF := hide (sort39 (w.heap.size + 1) u6 F0 wl hT.a (by omega))
      have HTn := hide hT.ne
      have HTb := hide hT.b
      have HTa := hide hT.a
      clear hT HT
      go_wp2_with fail
      refine KF.out.mono ?_
      rintro e w5 ⟨rfl, hO5, hg5⟩
      have hU5 : OwnL ic 1 3 w5 (w.heap.size + 1) u7 U0 := OwnL.grown HTb.out hg5 (fun q hq e => HTn.out q e.symm hq)
      have hA5 : Blk w5 w.heap.size 76 #[.int .i64 0, .int .i64 0] := HA.out.grown hg5 (fun e => by have := (HTa.out.blk e.symm).1; omega)
      have hB5 : Below w.heap.size w w5 := Below.grown HB.out hg5 hwz (fun k hk => by have := (HTa.out.blk hk).1; omega)
      have KU := hide (sort39 (w.heap.size + 1) u7 U0 w5 hU5 (by omega))
      have hws := hB5.size
      clear KF HTb HTa hg5 HA HB
      go_wp2_with fail
      refine KU.out.mono ?_
      rintro e w6 ⟨rfl, hO6, hg6⟩
      have hF6 := OwnL.grown hO5 hg6 (fun q hq e => HTn.out q hq e.symm)
      have hA6 : Blk w6 w.heap.size 76 #[.int .i64 0, .int .i64 0] := hA5.grown hg6 (fun e => by have := (hU5.blk e.symm).1; omega)
      have hB6 : Below w.heap.size w w6 := Below.grown hB5 hg6 (by omega) (fun k hk => by have := (hU5.blk hk).1; omega)
      have HFD := hide (HFN.out _ _ (List.mergeSort_perm F0 _) (List.mergeSort_perm U0 _) (sorted_le F0) (sorted_le U0))
      obtain ⟨A7, c7, rfl, hS7⟩ := hF6.sl
      obtain ⟨A8, c8, rfl, hS8⟩ := hO6.sl
      generalize F0.mergeSort (fun x y => decide (x ≤ y)) = F at *
      generalize U0.mergeSort (fun x y => decide (x ≤ y)) = U at *
      have h7l := hS7.le
      have h7m := hS7.max
      have h8l := hS8.le
      have h8m := hS8.max
      have HS7 := hide hS7
      have HS8 := hide hS8
      have HA6 := hide hA6
      have HB6 := hide hB6
      have KL := hide (fun f u w' (h : Below w.heap.size w w') => full40 A c l f u w' (HS.out.bel h) HR.out h64)
      clear KU HFN HTn hO5 hg6 hU5 hA5 hB5 hF6 hO6 hS7 hS8 hA6 hB6
      go_wp2
      go_loopw [44] (fun v44 wr => ∃ (i : Nat), i ≤ F.length ∧ v44 = .int .i64 i ∧ Hid ((spansT (F.drop i) U).find? (fullP l) = denyR l) ∧ Hid (Below w6.heap.size w6 wr)) (fun i _ => F.length - (nI i).toNat)
      case atStart => exact ⟨0, Nat.zero_le _, rfl, HFD, Below.refl _ _⟩
      case round =>
        clear HFD
        obtain ⟨i, hi, rfl, HQ, HBi⟩ := hrel
        obtain ⟨wo, hwo⟩ : ∃ x, x = wr := ⟨_, rfl⟩
        subst hwo
        by_cases hlt7 : i < F.length
        · obtain ⟨a, b7, o7, ha, hda, rfl, hb7, e7⟩ := Sl.ic_at (HS7.out.bel HBi.out) hlt7
          have hq := HQ.out
          rw [hda, show spansT (a :: F.drop (i + 1)) U = (U.map fun b => (a, b)) ++ spansT (F.drop (i + 1)) U from rfl] at hq
          have HQ2 := hide hq
          have iz : (i : Int) < (F.length : Int) := by omega
          clear hq HQ ha hda
          go_wp2
          clear e7
          go_loopw [50] (fun v50 wr => ∃ (j : Nat), j ≤ U.length ∧ v50 = .int .i64 j ∧ Hid (((U.drop j).map (fun b => (a, b)) ++ spansT (F.drop (i + 1)) U).find? (fullP l) = denyR l) ∧ Hid (Below w6.heap.size w6 wr)) (fun j _ => U.length - (nI j).toNat)
          case atStart => exact ⟨0, Nat.zero_le _, rfl, HQ2, HBi⟩
          case round =>
            clear HQ2 HBi
            obtain ⟨j, hj, rfl, HQ, HBj⟩ := hrel
            by_cases hlt8 : j < U.length
            · obtain ⟨d, b8, o8, hd, hdd, rfl, hb8, e8⟩ := Sl.ic_at (HS8.out.bel HBj.out) hlt8
              have hq := HQ.out
              rw [hdd, List.map_cons, List.cons_append, List.find?_cons] at hq
              have jz : (j : Int) < (U.length : Int) := by omega
              obtain ⟨w7, hw7⟩ : ∃ w7, wr.alloc (.cells #[.int .i64 a, .int .i64 d] 76) = w7 := ⟨_, rfl⟩
              have hb7' : Below w6.heap.size w6 w7 := by rw [← hw7]; exact kalloc HBj.out _
              have X7 : Blk w7 wr.heap.size 76 #[.int .i64 a, .int .i64 d] := by rw [← hw7]; exact Blk.new _ _ _
              have n0 := X7.cell (v := .int .i64 a) 0 rfl
              have n1 := X7.cell (v := .int .i64 d) 1 rfl
              have nl := X7.lt
              have K1 := hide (KL.out a d w7 (kcall HB6.out hb7'))
              have HB7 := hide hb7'
              clear hb7' hd hdd
              go_wp2_with fail
              refine K1.out.mono ?_
              rintro e w8 ⟨rfl, hb8'⟩
              have hb9 := kcall HB7.out hb8'
              have X8 := X7.bel hb8'
              have hA8 := HA6.out.bel hb9
              have m0 := X8.cell (v := .int .i64 a) 0 rfl
              have m1 := X8.cell (v := .int .i64 d) 1 rfl
              have ml := X8.lt
              have s0 := hA8.cell (v := .int .i64 0) 0 rfl
              have s1 := hA8.cell (v := .int .i64 0) 1 rfl
              have st0 := hA8.thaw 0
              have st1 := hA8.thaw 1
              have sl := hA8.lt
              have HB9 := hide hb9
              have HA8 := hide hA8
              clear hb9 hA8 X7 X8 hb8' K1 HB7 n0 n1 nl hw7
              cases hf : full l a d
              · rw [show fullP l (a, d) = false from hf] at hq
                have HQ2 := hide hq
                clear hq HQ hf
                go_wp2
                go_roundw
                case rel => exact ⟨j + 1, by omega, by go_num, HQ2, HB9⟩
                case measure => simp [nI]; omega
              · rw [show fullP l (a, d) = true from hf] at hq
                have HQ2 := hide hq
                clear hq HQ hf
                go_wp2
                have X0 := (HA8.out.set 0 (.int .i64 a) (cs' := #[.int .i64 a, .int .i64 0]) rfl).set 1 (.int .i64 d) (cs' := #[.int .i64 a, .int .i64 d]) rfl
                have z0 := X0.cell (v := .int .i64 a) 0 rfl
                have z1 := X0.cell (v := .int .i64 d) 1 rfl
                have hQ : denyQ l = some (a, d) := by rw [HE.out]; exact HQ2.out.symm
                exact bodyPost_ret (v := .tuple #[.agg #[.int .i64 a, .int .i64 d], .bool true, .int .i64 0]) (by simp [results, Tryz.results32, go_sem, z0, z1]) rfl ⟨by rw [hQ, HZ.out]; rfl, ((kcall HB6.out HB9.out).setCell (by dsimp only; omega) _).setCell (by dsimp only; omega) _⟩
            · obtain rfl : j = U.length := by omega
              have hq := HQ.out
              rw [List.drop_length, List.map_nil, List.nil_append] at hq
              have HQ2 := hide hq
              clear hq HQ
              go_wp2
              go_roundw
              case rel => exact ⟨i + 1, by omega, by go_num, HQ2, HBj⟩
              case measure => simp [nI]; omega
        · obtain rfl : i = F.length := by omega
          have hq := HQ.out
          rw [List.drop_length] at hq
          have HQ2 := hide (show denyR l = none from hq.symm)
          have hA8 := HA6.out.bel HBi.out
          have s0 := hA8.cell (v := .int .i64 0) 0 rfl
          have s1 := hA8.cell (v := .int .i64 0) 1 rfl
          have st0 := hA8.thaw 0
          have st1 := hA8.thaw 1
          have sl := hA8.lt
          clear hq HQ
          have HA8 := hide hA8
          have HB8 := hide (kcall HB6.out HBi.out)
          clear hA8
          go_wp2
          have X0 := (HA8.out.set 0 (.int .i64 0) (cs' := #[.int .i64 0, .int .i64 0]) rfl).set 1 (.int .i64 0) (cs' := #[.int .i64 0, .int .i64 0]) rfl
          have z0 := X0.cell (v := .int .i64 0) 0 rfl
          have z1 := X0.cell (v := .int .i64 0) 1 rfl
          have hQ : denyQ l = none := by rw [HE.out]; exact HQ2.out
          exact bodyPost_ret (v := .tuple #[.agg #[.int .i64 0, .int .i64 0], .bool false, .int .i64 0]) (by simp [results, Tryz.results32, go_sem, z0, z1]) rfl ⟨by rw [hQ, HZ.out]; rfl, (HB8.out.setCell (by dsimp only; omega) _).setCell (by dsimp only; omega) _⟩
end Go.Proofs.YtnngemgfochodaaGreat.J
namespace Go.Proofs.YtnngemgfochodaaGreat.J
open Go.Proofs.YtnngemgfochodaaGreat
open Go.RowKit Go.Mine Go.Mine.Q
set_option maxHeartbeats 4000000 in
theorem deny17 (A : Option Addr) (c : Nat) (l : List Jb) (w : World) (hS : Sl jbC 5 w A c l) : Calls Tryz.prog 32 #[.slice A l.length c] w (DenyE l w) := by
  by_cases hz : chk l = 0
  · exact deny17_good A c l w hS hz
  · have hlc := hS.le
    have hc := hS.max
    have HS := hide hS
    have K27 := hide (fun w (h : Sl jbC 5 w A c l) => check27 A c l w h)
    have HQ := hide (show denyQ l = none by unfold denyQ; rw [if_neg hz])
    have gz : (chk l != 0) = true := by simpa using hz
    generalize hq : chk l = z at K27 gz
    have HZ := hide hq
    clear hS hz hq
    go_enter Tryz.func32, Tryz.ntmps32
    go_wp2_with fail
    have a0 : Blk (w.alloc (.cells #[.int .i64 0, .int .i64 0] 76)) w.heap.size 76 #[.int .i64 0, .int .i64 0] := Blk.new _ _ _
    have hb0 : Below w.heap.size w (w.alloc (.cells #[.int .i64 0, .int .i64 0] 76)) := kalloc (Below.refl _ _) _
    refine (K27.out _ (HS.out.bel hb0)).mono ?_
    rintro e w3 ⟨rfl, hb3⟩
    have A3 := a0.bel hb3
    have HB := hide (kcall hb0 hb3)
    have s0 := A3.cell (v := .int .i64 0) 0 rfl
    have s1 := A3.cell (v := .int .i64 0) 1 rfl
    have st0 := A3.thaw 0
    have st1 := A3.thaw 1
    have sl := A3.lt
    have HA := hide A3
    clear a0 hb0 hb3 K27 A3
    go_wp2
    have X0 := (HA.out.set 0 (.int .i64 0) (cs' := #[.int .i64 0, .int .i64 0]) rfl).set 1 (.int .i64 0) (cs' := #[.int .i64 0, .int .i64 0]) rfl
    have z0 := X0.cell (v := .int .i64 0) 0 rfl
    have z1 := X0.cell (v := .int .i64 0) 1 rfl
    exact bodyPost_ret (v := .tuple #[.agg #[.int .i64 0, .int .i64 0], .bool false, .int .i64 z]) (by simp [results, Tryz.results32, go_sem, z0, z1]) rfl ⟨by rw [HQ.out, HZ.out]; rfl, (HB.out.setCell (by dsimp only; omega) _).setCell (by dsimp only; omega) _⟩
/-! ### the reference -/
theorem upD_no {l : List Jb} {b : Option (Int × Int)} {p : Int × Int} (h : fullP l p = false) : upD l b p = b := by unfold upD; rw [h]; rfl
theorem upD_first1 {l : List Jb} {p : Int × Int} (h : fullP l p = true) : upD l none p = some p := by unfold upD; rw [h]; rfl
theorem upD_less {l : List Jb} {p q : Int × Int} (h : fullP l p = true) (hl : lexLt p q) : upD l (some q) p = some p := by unfold upD; rw [h]; simp only [if_true]; rw [if_pos hl]
theorem upD_more {l : List Jb} {p q : Int × Int} (h : fullP l p = true) (hl : ¬ lexLt p q) : upD l (some q) p = some q := by unfold upD; rw [h]; simp only [if_true]; rw [if_neg hl]
structure DS (w wr : World) (W6 : Nat) (best : Option (Int × Int)) : Prop where
  r : Blk wr w.heap.size 76 #[.int .i64 0, .int .i64 0]
  b : Blk wr W6 76 #[.int .i64 (qA best), .int .i64 (qB best)]
  bel : Below w.heap.size w wr
  lt : w.heap.size < W6
end Go.Proofs.YtnngemgfochodaaGreat.J

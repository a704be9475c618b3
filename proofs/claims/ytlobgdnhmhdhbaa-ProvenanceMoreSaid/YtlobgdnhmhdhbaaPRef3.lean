/-
  The reference's Then, Reach, Back.
-/
import Derived.Test.YtlobgdnhmhdhbaaPAll
namespace Go.Proofs.Ytlobgdnhmhdhbaa
open Go.RowKit Go.Shelf Go.Mine

set_option maxHeartbeats 4000000 in
theorem refThen12_any (A B : Option Addr) (c d : Nat) (r s : List (List Int)) (n : Int) (w : World) (hR : Rel w A c r) (hS : Rel w B d s) :
    Calls Try.prog 12 #[.slice A r.length c, .slice B s.length d, .int .i64 n] w fun e w' => ∃ A2 c2, e = .returned (.tuple #[.slice A2 (P.thenL r s n).length c2, .int .i64 (P.thenE r s n)]) ∧ Rel w' A2 c2 (P.thenL r s n) ∧ Below w.heap.size w w' := by
  have a1 := hR.le
  have a2 := hR.max
  have a3 := hS.le
  have a4 := hS.max
  have KC := hide (refCheck14_any A c r n w hR)
  have KD := hide (fun w (hS : Rel w B d s) => refCheck14_any B d s r.length w hS)
  by_cases hz : P.chk r n = 0
  · by_cases hy : P.chk s r.length = 0
    · have he : P.thenE r s n = 0 := P.thenE_zero.2 ⟨hz, hy⟩
      have KU := hide (fun (w : World) (B : Option Addr) (d : Nat) (l : List Int) (hl : l ∈ s) (hR : Rel w A c r) (hL : Sl ic 1 w B d l) =>
        all25_any A B c d r n l w hR hL hz ((P.chk_zero.1 hy).2.2.2 l hl))
      have hsl := (P.chk_zero.1 hy).1
      obtain ⟨i0, hi, hz0, hz1, hz2⟩ := info_parts Try_info31
      have HI := hide hi
      rw [he, P.thenL_ok he]
      rw [hz] at KC
      rw [hy] at KD
      generalize P.allL r n = U at KU ⊢
      clear hz hy he hi
      go_enter Try.func12, Try.ntmps12
      go_wp2_with fail
      refine (KC.out).mono ?_
      rintro e w1 ⟨rfl, hb⟩
      replace hR := hR.bel hb
      replace hS := hS.bel hb
      have hB1 := hb
      clear hb KC
      go_wp2_with fail
      refine (KD.out _ hS).mono ?_
      rintro e w2 ⟨rfl, hb⟩
      have hB2 := hide (kcall hB1 hb)
      replace hR := hide (hR.bel hb)
      replace hS := hS.bel hb
      clear hb KD hB1
      go_wp2
      go_loopw [9, 10] (fun v i wr => ∃ (k : Nat) (es : List Hd), k ≤ s.length ∧ i = .int .i64 k ∧ es.map (fun e => e.2.2) = (s.take k).map U ∧ OwnR wr w2.heap.size v es ∧ Below w2.heap.size w2 wr) (fun _ i _ => s.length - (nI i).toNat)
      case atStart => exact ⟨0, [], Nat.zero_le _, rfl, rfl, ⟨OwnL.nil _ _ _ _ _, by simp⟩, Below.refl _ _⟩
      case round =>
        obtain ⟨k, es, hk, rfl, hes, hO, hb⟩ := hrel
        have hN := hb.size
        by_cases hlt : k < s.length
        · obtain ⟨l, bb, off, B2, d2, hx, hdr, rfl, hbw, c1, hL⟩ := (hS.bel hb).at_ hlt
          have KU2 := hide (KU.out wr B2 d2 l (List.mem_of_getElem? hx) (hR.out.bel hb) hL)
          have e1 := hide (show (es.map (fun e => e.2.2)) ++ [U l] = (s.take (k + 1)).map U by rw [hes, take_of_get hx]; simp)
          have hel : es.length ≤ 4096 := by
            have := congrArg List.length hes
            simp only [List.length_map, List.length_take] at this
            omega
          have HO := hide hO
          clear hdr hx hS hes hO hL KU
          go_wp2_with fail
          refine (KU2.out).mono ?_
          rintro e w4 ⟨v', rfl, hO4, hb4⟩
          have hB4 := hide (kcall hb hb4)
          have HO5 := hide (HO.out.bel hb4)
          obtain ⟨A3, c3, rfl, -⟩ := hO4.sl
          have HU := hide (hO4.mono hN)
          have hN4 := hB4.out.size
          clear hb4 hO4 KU2 HO hb c1 hbw
          go_wp2_with (at_builtin; refine wpList_push (f := hc) (y := ((A3, c3, U l) : Hd)) (l := es) rfl (.tmp 29) (.tmp 37) 22 rfl Try.underlying22 HI.out hz0 hz1 hz2 rfl (by decide) rfl (HO5.out.own.alloc _) rfl (heap_new _ _) rfl rfl ?_ ?_ ?_ ?_ ?_)
          · simp [Value.oneCell', hc]
          · simp only [maxLen]; omega
          · omega
          · first | omega | (simp; omega)
          · intro v6 w6 hO6 hgr hat
            have R6 := hide (OwnR.push (x := (A3, c3, U l)) (HO5.out.bel ((Below.refl _ _).alloc (Nat.le_refl _) (Obj.cells #[.slice A3 (U l).length c3] 31))) (HU.out.alloc _) hO6 hgr)
            have hb6 := hide (Below.grown (hB4.out.alloc hN4 (Obj.cells #[.slice A3 (U l).length c3] 31)) hgr (by simp; omega) (fun g hg => (HO5.out.own.blk hg).1))
            clear hO6 hgr hat HU HO5
            go_wp2
            go_roundw
            case rel => exact ⟨k + 1, es ++ [(A3, c3, U l)], by omega, by go_num, by rw [← e1.out]; simp, R6.out, hb6.out⟩
            case measure => simp [nI]; omega
        · obtain rfl : k = s.length := by omega
          rw [List.take_length] at hes
          obtain ⟨A2, c2, rfl, hRl⟩ := hO.rel
          rw [hes] at hRl ⊢
          have HR := hide hRl
          have hB := hide (kcall hB2.out hb)
          clear hO hRl hS hes
          go_wp2
          go_ret2
          exact ⟨A2, c2, rfl, HR.out, hB.out⟩
    · have he : P.thenE r s n = P.chk s r.length := by unfold P.thenE; rw [if_pos hz]
      rw [P.thenL_bad (by rw [he]; exact hy), he]
      rw [hz] at KC
      generalize P.chk s r.length = e0 at KD hy ⊢
      clear hz he
      go_enter Try.func12, Try.ntmps12
      go_wp2_with fail
      refine (KC.out).mono ?_
      rintro e w1 ⟨rfl, hb⟩
      have hB1 := hb
      replace hS := hS.bel hb
      clear hb KC
      go_wp2_with fail
      refine (KD.out _ hS).mono ?_
      rintro e w2 ⟨rfl, hb⟩
      have hB2 := kcall hB1 hb
      go_wp2
      go_ret2
      exact ⟨none, 0, rfl, Rel.nil (by omega), hB2⟩
  · have he : P.thenE r s n = P.chk r n := by unfold P.thenE; rw [if_neg hz]
    rw [P.thenL_bad (by rw [he]; exact hz), he]
    generalize P.chk r n = e0 at KC hz ⊢
    clear he
    go_enter Try.func12, Try.ntmps12
    go_wp2_with fail
    refine (KC.out).mono ?_
    rintro e w1 ⟨rfl, hb⟩
    go_wp2
    go_ret2
    exact ⟨none, 0, rfl, Rel.nil (by omega), hb⟩
set_option maxHeartbeats 2000000 in
theorem refBack19_any (A B : Option Addr) (c d : Nat) (r : List (List Int)) (n : Int) (l : List Int) (w : World) (hR : Rel w A c r) (hL : Sl ic 1 w B d l) :
    Calls Try.prog 19 #[.slice A r.length c, .int .i64 n, .slice B l.length d] w fun e w' => ∃ v, e = .returned (.tuple #[v, .int .i64 (P.argE r n r.length l)]) ∧ OwnL ic 1 3 w' w.heap.size v (P.backL r n l) ∧ Below w.heap.size w w' := by
  have a1 := hR.le
  have a2 := hR.max
  have a3 := hL.le
  have a4 := hL.max
  have KC := hide (refCheck14_any A c r n w hR)
  have KB := hide (fun w (hL : Sl ic 1 w B d l) => refBelow22_any B d l r.length w hL)
  by_cases hz : P.chk r n = 0
  · by_cases hl : P.below l r.length = true
    · have he : P.argE r n r.length l = 0 := P.argE_zero.2 ⟨hz, hl⟩
      have KU := hide (fun (w : World) (hR : Rel w A c r) (hL : Sl ic 1 w B d l) => all25_any A B c d r n l w hR hL hz hl)
      rw [he, P.backL_ok he]
      rw [hz] at KC
      rw [hl] at KB
      generalize P.allL r n l = U at KU ⊢
      clear hz hl he
      go_enter Try.func19, Try.ntmps19
      go_wp2_with fail
      refine (KC.out).mono ?_
      rintro e w1 ⟨rfl, hb⟩
      replace hR := hR.bel hb
      replace hL := hL.bel hb
      have hB1 := hb
      clear hb KC
      go_wp2_with fail
      refine (KB.out _ hL).mono ?_
      rintro e w2 ⟨rfl, hb⟩
      replace hR := hR.bel hb
      replace hL := hL.bel hb
      have hB2 := kcall hB1 hb
      clear hb KB hB1
      go_wp2_with fail
      refine (KU.out _ hR hL).mono ?_
      rintro e w3 ⟨v, rfl, hO, hb⟩
      have hB3 := hide (kcall hB2 hb)
      have hO3 := hide (hO.mono hB2.size)
      clear hb hO KU
      go_wp2
      go_ret2
      exact ⟨v, rfl, hO3.out, hB3.out⟩
    · have he : P.argE r n r.length l = 1 := by unfold P.argE; rw [if_pos hz, if_neg hl]
      rw [he, P.backL_bad (by rw [he]; decide)]
      rw [hz] at KC
      rw [show P.below l r.length = false by simpa using hl] at KB
      clear hz hl he
      go_enter Try.func19, Try.ntmps19
      go_wp2_with fail
      refine (KC.out).mono ?_
      rintro e w1 ⟨rfl, hb⟩
      replace hL := hL.bel hb
      have hB1 := hb
      clear KC hb
      go_wp2_with fail
      refine (KB.out _ hL).mono ?_
      rintro e w2 ⟨rfl, hb⟩
      have hB2 := kcall hB1 hb
      go_wp2
      go_ret2
      exact ⟨_, rfl, OwnL.nil _ _ _ _ _, hB2⟩
  · have he : P.argE r n r.length l = P.chk r n := by unfold P.argE; rw [if_neg hz]
    rw [P.backL_bad (by rw [he]; exact hz), he]
    generalize P.chk r n = e0 at KC hz ⊢
    clear he
    go_enter Try.func19, Try.ntmps19
    go_wp2_with fail
    refine (KC.out).mono ?_
    rintro e w1 ⟨rfl, hb⟩
    go_wp2
    go_ret2
    exact ⟨_, rfl, OwnL.nil _ _ _ _ _, hb⟩
set_option maxHeartbeats 4000000 in
theorem refReach17_any (A B : Option Addr) (c d : Nat) (r : List (List Int)) (n : Int) (src : List Int) (w : World) (hR : Rel w A c r) (hL : Sl ic 1 w B d src) :
    Calls Try.prog 17 #[.slice A r.length c, .int .i64 n, .slice B src.length d] w fun e w' => ∃ v, e = .returned (.tuple #[v, .int .i64 (P.argE r n n src)]) ∧ OwnL ic 1 3 w' w.heap.size v (P.reachL r n src) ∧ Below w.heap.size w w' := by
  have a1 := hR.le
  have a2 := hR.max
  have a3 := hL.le
  have a4 := hL.max
  have KC := hide (refCheck14_any A c r n w hR)
  have KB := hide (fun w (hL : Sl ic 1 w B d src) => refBelow22_any B d src n w hL)
  by_cases hz : P.chk r n = 0
  · by_cases hl : P.below src n = true
    · have he : P.argE r n n src = 0 := P.argE_zero.2 ⟨hz, hl⟩
      obtain ⟨z1, z2, z3, z4⟩ := P.chk_zero.1 hz
      obtain ⟨i0, hi, hz0, hz1, hz2⟩ := info_parts Try_info3
      have HI := hide hi
      have KH := hide (fun t w (hL : Sl ic 1 w B d src) => has21_any B d src t w hL)
      rw [he, P.reachL_ok he]
      rw [hz] at KC
      rw [hl] at KB
      clear hz hl he hi z2 z3 z4
      go_enter Try.func17, Try.ntmps17
      go_wp2_with fail
      refine (KC.out).mono ?_
      rintro e w1 ⟨rfl, hb⟩
      replace hR := hR.bel hb
      replace hL := hL.bel hb
      have hB1 := hb
      clear hb KC
      go_wp2_with fail
      refine (KB.out _ hL).mono ?_
      rintro e w2 ⟨rfl, hb⟩
      replace hR := hide (hR.bel hb)
      replace hL := hide (hL.bel hb)
      have hB2 := hide (kcall hB1 hb)
      clear hb KB hB1
      go_wp2
      go_loopw [9, 10] (fun v i wr => ∃ k : Nat, k ≤ r.length ∧ i = .int .i64 k ∧ OwnL ic 1 3 wr w2.heap.size v ((P.rng k).filter (fun i => P.meets src (P.row r i))) ∧ Below w2.heap.size w2 wr) (fun _ i _ => r.length - (nI i).toNat)
      case atStart => exact ⟨0, Nat.zero_le _, rfl, OwnL.nil _ _ _ _ _, Below.refl _ _⟩
      case round =>
        obtain ⟨k, hk, rfl, hO, hb⟩ := hrel
        have hN := hb.size
        by_cases hlt : k < r.length
        · obtain ⟨x, bb, off, B2, d2, hx, hdr, rfl, hbw, c1, hX⟩ := hR.out.at_ hlt
          have e1 := hide (reach_next (src := src) hx)
          have hll : ((P.rng k).filter (fun i => P.meets src (P.row r i))).length ≤ 4096 := by
            have := List.length_filter_le (fun i => P.meets src (P.row r i)) (P.rng k)
            rw [P.rng_length] at this
            omega
          have HO := hide hO
          generalize (P.rng k).filter (fun i => P.meets src (P.row r i)) = La at *
          have f1 := (hb.cell (p := ⟨bb, off + k, none⟩) hbw).trans c1
          have a5 := hX.le
          have a6 := hX.max
          have hbb := hide hb
          clear hdr hx hO
          go_wp2
          go_loopw [11, 12] (fun q j wq => ∃ h : Nat, h ≤ x.length ∧ j = .int .i64 h ∧ q = .bool (P.meets src (x.take h)) ∧ wq = wr) (fun _ j _ => x.length - (nI j).toNat)
          case atStart => exact ⟨0, Nat.zero_le _, rfl, rfl, rfl⟩
          case round =>
            obtain ⟨h, hh, rfl, rfl, rfl⟩ := hrel
            by_cases hlh : h < x.length
            · obtain ⟨z, bz, oz, hz, hdr3, rfl, hbz, c3⟩ := (hX.bel hbb.out).ic_at hlh
              have f3 := c3
              have e2 := hide (show P.meets src (x.take (h + 1)) = (P.meets src (x.take h) || src.contains z) by rw [take_of_get hz]; simp [P.meets])
              have K := hide (KH.out z _ (hL.out.bel hbb.out))
              generalize P.meets src (x.take h) = q at e2
              generalize src.contains z = q2 at e2 K
              clear hz hdr3 hX
              cases q
              · go_wp2_with fail
                refine (K.out).mono ?_
                rintro e w' ⟨rfl, rfl⟩
                cases q2
                all_goals
                  go_wp2
                  go_roundw
                  case rel => exact ⟨h + 1, by omega, by go_num, by rw [e2.out]; rfl, trivial⟩
                  case measure => simp [nI]; omega
              · go_wp2
                go_roundw
                case rel => exact ⟨h + 1, by omega, by go_num, by rw [e2.out]; rfl, trivial⟩
                case measure => simp [nI]; omega
            · obtain rfl : h = x.length := by omega
              rw [List.take_length]
              generalize P.meets src x = v at e1
              clear hX
              cases v
              · go_wp2
                go_roundw
                case rel => exact ⟨k + 1, by omega, by go_num, by rw [e1.out]; simpa using HO.out, hbb.out⟩
                case measure => simp [nI]; omega
              · go_wp2_with (at_builtin; refine wpList_push (f := ic) (y := (k : Int)) (l := La) rfl (.tmp 51) (.tmp 53) 31 rfl Try.underlying31 HI.out hz0 hz1 hz2 rfl (by decide) rfl (HO.out.alloc _) rfl (heap_new _ _) rfl rfl ?_ ?_ ?_ ?_ ?_)
                · simp [Value.oneCell', ic]
                · simp only [maxLen]; omega
                · omega
                · first | omega | (simp; omega)
                · intro v6 w6 hO6 hgr hat
                  have H6 := hide hO6
                  have hb6 := hide (Below.grown (hbb.out.alloc hN (Obj.cells #[.int .i64 k] 3)) hgr (by simp; omega) (fun g hg => (HO.out.blk hg).1))
                  clear hO6 hgr hat
                  go_wp2
                  go_roundw
                  case rel => exact ⟨k + 1, by omega, by go_num, by rw [e1.out]; simpa using H6.out, hb6.out⟩
                  case measure => simp [nI]; omega
        · obtain rfl : k = r.length := by omega
          have HO := hide (hO.mono hB2.out.size)
          have hB := hide (kcall hB2.out hb)
          obtain ⟨A2, c2, rfl, -⟩ := hO.sl
          clear hO
          go_wp2
          go_ret2
          exact ⟨_, rfl, HO.out, hB.out⟩
    · have he : P.argE r n n src = 1 := by unfold P.argE; rw [if_pos hz, if_neg hl]
      rw [he, P.reachL_bad (by rw [he]; decide)]
      rw [hz] at KC
      rw [show P.below src n = false by simpa using hl] at KB
      clear hz hl he
      go_enter Try.func17, Try.ntmps17
      go_wp2_with fail
      refine (KC.out).mono ?_
      rintro e w1 ⟨rfl, hb⟩
      replace hL := hL.bel hb
      have hB1 := hb
      clear KC hb
      go_wp2_with fail
      refine (KB.out _ hL).mono ?_
      rintro e w2 ⟨rfl, hb⟩
      have hB2 := kcall hB1 hb
      go_wp2
      go_ret2
      exact ⟨_, rfl, OwnL.nil _ _ _ _ _, hB2⟩
  · have he : P.argE r n n src = P.chk r n := by unfold P.argE; rw [if_neg hz]
    rw [P.reachL_bad (by rw [he]; exact hz), he]
    generalize P.chk r n = e0 at KC hz ⊢
    clear he
    go_enter Try.func17, Try.ntmps17
    go_wp2_with fail
    refine (KC.out).mono ?_
    rintro e w1 ⟨rfl, hb⟩
    go_wp2
    go_ret2
    exact ⟨_, rfl, OwnL.nil _ _ _ _ _, hb⟩
end Go.Proofs.Ytlobgdnhmhdhbaa

/-
  provenance.Reach.
-/
import Derived.Test.YtlobgdnhmhdhbaaPThen2
namespace Go.Proofs.Ytlobgdnhmhdhbaa
open Go.RowKit Go.Shelf Go.Mine

theorem reach_next {r : List (List Int)} {src x : List Int} {k : Nat} (hx : r[k]? = some x) :
    (P.rng ((k + 1 : Nat) : Int)).filter (fun i => P.meets src (P.row r i)) = (P.rng k).filter (fun i => P.meets src (P.row r i)) ++ (if P.meets src x = true then [(k : Int)] else []) := by
  rw [Int.natCast_succ, P.rng_succ, List.filter_append]
  congr 1
  have : P.row r k = x := by unfold P.row; rw [List.getD_eq_getElem?_getD, Int.toNat_natCast, hx]; rfl
  rw [List.filter_cons, List.filter_nil, this]
set_option maxHeartbeats 4000000 in
theorem reach16_any (A B : Option Addr) (c d : Nat) (r : List (List Int)) (n : Int) (src : List Int) (w : World) (hR : Rel w A c r) (hL : Sl ic 1 w B d src) :
    Calls Try.prog 16 #[.slice A r.length c, .int .i64 n, .slice B src.length d] w fun e w' => ∃ v, e = .returned (.tuple #[v, .int .i64 (P.argE r n n src)]) ∧ OwnL ic 1 3 w' w.heap.size v (P.reachL r n src) ∧ Below w.heap.size w w' := by
  have a1 := hR.le
  have a2 := hR.max
  have a3 := hL.le
  have a4 := hL.max
  have KC := hide (check13_any A c r n w hR)
  have KB := hide (fun w (hL : Sl ic 1 w B d src) => below27_any B d src n w hL)
  by_cases hz : P.chk r n = 0
  · by_cases hl : P.below src n = true
    · have he : P.argE r n n src = 0 := P.argE_zero.2 ⟨hz, hl⟩
      obtain ⟨z1, z2, z3, z4⟩ := P.chk_zero.1 hz
      have hsl : src.length ≤ 4096 := P.below_le hl z3
      have hs64 : ∀ y ∈ src, I64 y := fun y hy => by have := ((P.below_iff _ _).1 hl).1 y hy; exact ⟨by omega, by omega⟩
      have hr64 : ∀ x ∈ r, ∀ y ∈ x, I64 y := fun x hx y hy => by have := ((P.below_iff _ _).1 (z4 x hx)).1 y hy; exact ⟨by omega, by omega⟩
      obtain ⟨i0, hi, hz0, hz1, hz2⟩ := info_parts Try_info3
      have HI := hide hi
      have KA := hide (fun b w (hM : MapI Try.prog 3 w b 0 (setM [])) (hL : Sl ic 1 w B d src) => add29_any b 0 [] B d src w hM hL hs64 (by omega))
      have HR64 := hide hr64
      have hmm := @run_makeMap Try.prog
      rw [he, P.reachL_ok he]
      rw [hz] at KC
      rw [hl] at KB
      clear hz hl he hi z2 z3 z4 hs64 hr64
      go_enter Try.func16, Try.ntmps16
      go_wp2_with fail
      refine (KC.out).mono ?_
      rintro e w1 ⟨rfl, hb⟩
      replace hR := hR.bel hb
      replace hL := hL.bel hb
      have hB1 := hb
      clear hb KC
      go_wp2_with fail
      refine (KB.out _ hL).mono ?_
      rintro e w' ⟨rfl, rfl⟩
      go_wp2_with fail
      have hM0 : MapI Try.prog 3 ((w1.alloc (.map #[] 0)).alloc (.cells #[.map (some w1.heap.size)] 48)) w1.heap.size 0 (setM []) := by rw [setM_nil]; exact (MapI.made _ _ _).alloc _
      refine (KA.out _ _ hM0 ((hL.alloc _).alloc _)).mono ?_
      rintro e w2 ⟨rfl, hM, hg⟩
      have hb2 : Below w1.heap.size w1 w2 := Below.grown (kalloc (kalloc (Below.refl _ _) _) _) hg (by simp; omega) (fun g hg => by obtain rfl := Option.some.inj hg; exact Nat.le_refl _)
      have hP := (Blk.new1 w1 (.map #[] 0) #[.map (some w1.heap.size)] 48).grown hg (by intro e; have := Option.some.inj e; omega)
      have hB2 := hide (kcall hB1 hb2)
      replace hR := hide (hR.bel hb2)
      have hgs := hg.size
      simp only [World.size_alloc] at hgs
      have HM := hide hM
      have HP := hide hP
      clear hb2 hg hM hP KA KB hmm hM0 hL hB1
      go_wp2
      go_loopw [6, 27] (fun v i wr => ∃ k : Nat, k ≤ r.length ∧ i = .int .i64 k ∧ OwnL ic 1 3 wr w2.heap.size v ((P.rng k).filter (fun i => P.meets src (P.row r i))) ∧ Below w2.heap.size w2 wr) (fun _ i _ => r.length - (nI i).toNat)
      case atStart => exact ⟨0, Nat.zero_le _, rfl, OwnL.nil _ _ _ _ _, Below.refl _ _⟩
      case round =>
        obtain ⟨k, hk, rfl, hO, hb⟩ := hrel
        have hN := hb.size
        by_cases hlt : k < r.length
        · obtain ⟨x, bb, off, B2, d2, hx, hdr, rfl, hbw, c1, hX⟩ := (hR.out.bel hb).at_ hlt
          have K30 := hide (contains30_any B2 d2 x (w1.heap.size + 1) w1.heap.size _ src wr hX (HR64.out x (List.mem_of_getElem? hx)) (HP.out.bel hb) (HM.out.bel hb))
          have e1 := hide (reach_next (src := src) hx)
          have hll : ((P.rng k).filter (fun i => P.meets src (P.row r i))).length ≤ 4096 := by
            have := List.length_filter_le (fun i => P.meets src (P.row r i)) (P.rng k)
            rw [P.rng_length] at this
            omega
          have HO := hide hO
          try simp only [List.nil_append] at K30
          generalize (P.rng k).filter (fun i => P.meets src (P.row r i)) = La at *
          generalize P.meets src x = v at K30 e1
          clear hdr hx hO hX HR64
          cases v
          · go_wp2_with fail
            refine (K30.out).mono ?_
            rintro e w' ⟨rfl, rfl⟩
            go_wp2
            go_roundw
            case rel => exact ⟨k + 1, by omega, by go_num, by rw [e1.out]; simpa using HO.out, hb⟩
            case measure => simp [nI]; omega
          · go_wp2_with fail
            refine (K30.out).mono ?_
            rintro e w' ⟨rfl, rfl⟩
            go_wp2_with (at_builtin; refine wpList_push (f := ic) (y := (k : Int)) (l := La) rfl (.tmp 35) (.tmp 37) 31 rfl Try.underlying31 HI.out hz0 hz1 hz2 rfl (by decide) rfl (HO.out.alloc _) rfl (heap_new _ _) rfl rfl ?_ ?_ ?_ ?_ ?_)
            · simp [Value.oneCell', ic]
            · simp only [maxLen]; omega
            · omega
            · first | omega | (simp; omega)
            · intro v6 w6 hO6 hgr hat
              have H6 := hide hO6
              have hb6 := hide (Below.grown (hb.alloc hN (Obj.cells #[.int .i64 k] 3)) hgr (by simp; omega) (fun g hg => (HO.out.blk hg).1))
              clear hO6 hgr hat
              go_wp2
              go_roundw
              case rel => exact ⟨k + 1, by omega, by go_num, by rw [e1.out]; simpa using H6.out, hb6.out⟩
              case measure => simp [nI]; omega
        · obtain rfl : k = r.length := by omega
          have HO := hide (hO.mono hB2.out.size)
          have hB := hide (kcall hB2.out hb)
          obtain ⟨A2, c2, rfl, -⟩ := hO.sl
          clear hO
          go_wp2
          go_ret2
          exact ⟨_, rfl, HO.out, hB.out⟩
    · have he : P.argE r n n src = 1 := by unfold P.argE; rw [if_pos hz, if_neg hl]
      rw [he, P.reachL_bad (by rw [he]; decide)]
      rw [hz] at KC
      rw [show P.below src n = false by simpa using hl] at KB
      clear hz hl he
      go_enter Try.func16, Try.ntmps16
      go_wp2_with fail
      refine (KC.out).mono ?_
      rintro e w1 ⟨rfl, hb⟩
      replace hL := hL.bel hb
      clear KC
      go_wp2_with fail
      refine (KB.out _ hL).mono ?_
      rintro e w' ⟨rfl, rfl⟩
      go_wp2
      go_ret2
      exact ⟨_, rfl, OwnL.nil _ _ _ _ _, hb⟩
  · have he : P.argE r n n src = P.chk r n := by unfold P.argE; rw [if_neg hz]
    rw [P.reachL_bad (by rw [he]; exact hz), he]
    generalize P.chk r n = e0 at KC hz ⊢
    clear he
    go_enter Try.func16, Try.ntmps16
    go_wp2_with fail
    refine (KC.out).mono ?_
    rintro e w1 ⟨rfl, hb⟩
    go_wp2
    go_ret2
    exact ⟨_, rfl, OwnL.nil _ _ _ _ _, hb⟩
end Go.Proofs.Ytlobgdnhmhdhbaa

/-
  ProvenanceMore: its walk: true, whatever the input.
-/
import Derived.Test.YtlobgdnhmhdhbaaPOpen
import Derived.Deep.RegionHeld3
namespace Go.Proofs.Ytlobgdnhmhdhbaa
open Go.RowKit Go.Shelf Go.Mine

theorem own_slice {α : Type} {f : α → List Value} {sz : Nat} {e : TypeId} {w : World} {base : Nat} {A : Option Addr} {n c : Nat} {l : List α} (h : OwnL f sz e w base (.slice A n c) l) : n = l.length ∧ Sl f sz w A c l := by
  obtain ⟨A', c', hv, hS⟩ := h.sl
  simp only [Value.slice.injEq] at hv
  obtain ⟨rfl, rfl, rfl⟩ := hv
  exact ⟨rfl, hS⟩
theorem ic_one (l : List Int) : ∀ x ∈ l, ∀ u ∈ ic x, u.oneCell' = true := by intro x _ u hu; simp [ic] at hu; subst hu; rfl
theorem run_ext_n {P : Program} {w : World} {t ty e : TypeId} {base : Nat} {i : TypeInfo} {z : Value} {bytes : Nat} (ht : P.underlying t = some (.slice e)) (hi : P.info? e = some i) (hz : i.zero = some z)
    (hsize : i.size = 1) (hby : i.bytes = bytes) (hzs : z.cells.size = 1) {v : Value} {l1 l2 : List Int} (hown : OwnL ic 1 e w base v l1) {A : Option Addr} {c n : Nat} (hn : l2.length = n) (h2 : Sl ic 1 w A c l2)
    (h63 : l1.length + n ≤ maxLen) (hbytes : (l1.length + n) * bytes ≤ 140737488355328) (hbase : base ≤ w.heap.size) :
    ∃ v' w', (Builtin.append_ #[t, t] ty #[v, .slice A n c]).run P w = .ok v' w' ∧ OwnL ic 1 e w' base v' (l1 ++ l2) ∧ w.grownBy w' v.ownBlock ∧ (∀ g, v'.ownBlock = some g → v.ownBlock = some g ∨ w.heap.size ≤ g) := by
  subst hn
  exact run_extend ht hi hz hsize hby hzs (by decide) hown h2 (ic_one _) h63 hbytes hbase
/-- a part of a list of numbers -/
theorem ic_part {w : World} {b off c c' : Nat} {l : List Int} (h : Sl ic 1 w (some ⟨b, off, none⟩) c l) (k : Nat) (l' : List Int) (hl : ∀ i v, l'[i]? = some v → l[k + i]? = some v) (hc : l'.length ≤ c') (hc2 : c' ≤ 9223372036854775807) : Sl ic 1 w (some ⟨b, off + k, none⟩) c' l' := by
  refine ⟨hc, hc2, fun _ _ => rfl, fun hn => ⟨b, off + k, rfl, ?_, fun i v hv => ?_⟩⟩
  · have hx := hl 0 _ (List.getElem?_eq_getElem (List.length_pos_iff.2 hn))
    obtain ⟨b', off', e, hb, _⟩ := h.cells (by rintro rfl; simp at hx)
    simp only [Option.some.injEq, Addr.mk.injEq, and_true] at e
    rw [e.1]; exact hb
  · have e1 : l'.flatMap ic = l'.map (Value.int .i64) := by rw [List.map_eq_flatMap]; rfl
    rw [e1, List.getElem?_map] at hv
    obtain ⟨y, hy, rfl⟩ := Option.map_eq_some_iff.1 hv
    have hx := hl i y hy
    obtain ⟨b', off', e, hb, hcell⟩ := h.cells (by rintro rfl; simp at hx)
    simp only [Option.some.injEq, Addr.mk.injEq, and_true] at e
    obtain ⟨rfl, rfl⟩ := e
    have e2 : l.flatMap ic = l.map (Value.int .i64) := by rw [List.map_eq_flatMap]; rfl
    have := hcell (k + i) (.int .i64 y) (by rw [e2, List.getElem?_map, hx]; rfl)
    rw [Nat.add_assoc]; exact this
theorem sl_take {w : World} {A : Option Addr} {c : Nat} {l : List Int} (h : Sl ic 1 w A c l) (k : Nat) : Sl ic 1 w A c (l.take k) := by
  refine ⟨Nat.le_trans (List.length_take_le' _ _) h.le, h.max, fun _ _ => rfl, fun hn => ?_⟩
  obtain ⟨b, off, e, hb, hc⟩ := h.cells (by rintro rfl; simp at hn)
  refine ⟨b, off, e, hb, fun i v hv => hc i v ?_⟩
  have e1 : l.flatMap ic = (l.take k).flatMap ic ++ (l.drop k).flatMap ic := by rw [← List.flatMap_append, List.take_append_drop]
  rw [e1, List.getElem?_append_left (List.getElem?_eq_some_iff.1 hv).1]; exact hv
def flatK (r : List (List Int)) (n : Int) (l : List Int) : List Int := l.flatMap fun x => P.reachL r n [x]
theorem flatK_next {r : List (List Int)} {n : Int} {l : List Int} {k : Nat} {x : Int} (hx : l[k]? = some x) : flatK r n (l.take (k + 1)) = flatK r n (l.take k) ++ P.reachL r n [x] := by
  rw [take_of_get hx]; simp [flatK]
theorem flatK_filter {r : List (List Int)} {n : Int} {l : List Int} (h : P.argE r n n l = 0) : (P.rng r.length).filter (fun s => (flatK r n l).contains s) = P.reachL r n l := by
  rw [← P.reach_filter h]
  refine List.filter_congr fun i _ => ?_
  rw [Bool.eq_iff_iff]
  simp [flatK]
theorem more_few (A B : Option Addr) (c d : Nat) (r : List (List Int)) (n : Int) (l : List Int) (w : World) (hR : Rel w A c r) (hS : Sl ic 1 w B d l) (h : few31 r = false ∨ (few31 r = true ∧ 20 < l.length)) : Calls Try.prog 8 #[.slice A r.length c, .int .i64 n, .slice B l.length d] w fun e w' => e = .returned (.bool true) ∧ Below w.heap.size w w' := by
  have K9 := hide sane31_any
  have Fr := hide (fun w (hR : Rel w A c r) => few10_any A c r w hR)
  have hB0 := Below.refl w.heap.size w
  have hS_a := hS.le
  have hS_b := hS.max
  rcases h with h | ⟨h3, h⟩
  · rw [h] at Fr
    clear h
    go_enter Try.func8, Try.ntmps8
    go_wp2_with fail
    refine (K9.out _).mono ?_
    rintro e w1 ⟨rfl, hb⟩
    go_wp2_with fail
    refine (Fr.out _ (hR.bel hb)).mono ?_
    rintro e w' ⟨rfl, rfl⟩
    go_wp2
    go_ret
    exact ⟨rfl, hb⟩
  · rw [h3] at Fr
    have g1 : decide ((20 : Int) < l.length) = true := by simp; omega
    clear h h3
    go_enter Try.func8, Try.ntmps8
    go_wp2_with fail
    refine (K9.out _).mono ?_
    rintro e w1 ⟨rfl, hb⟩
    go_wp2_with fail
    refine (Fr.out _ (hR.bel hb)).mono ?_
    rintro e w' ⟨rfl, rfl⟩
    go_wp2
    go_ret
    exact ⟨rfl, hb⟩
theorem more_bad (A B : Option Addr) (c d : Nat) (r : List (List Int)) (n : Int) (l : List Int) (w : World) (hR : Rel w A c r) (hS : Sl ic 1 w B d l) (hr : few31 r = true) (hl : ¬ 20 < l.length) (he : P.argE r n n l ≠ 0) : Calls Try.prog 8 #[.slice A r.length c, .int .i64 n, .slice B l.length d] w fun e w' => e = .returned (.bool true) ∧ Below w.heap.size w w' := by
  have K9 := hide sane31_any
  have Fr := hide (fun w (hR : Rel w A c r) => few10_any A c r w hR)
  rw [hr] at Fr
  have hB0 := Below.refl w.heap.size w
  have hS_a := hS.le
  have hS_b := hS.max
  have g1 : decide ((20 : Int) < l.length) = false := by simp; omega
  have K16 := hide (fun w (hR : Rel w A c r) (hS : Sl ic 1 w B d l) => reach16_sl A B c d r n l w hR hS)
  rw [P.reachL_bad he] at K16
  generalize P.argE r n n l = e0 at K16 he
  clear hr hl
  go_enter Try.func8, Try.ntmps8
  go_wp2_with fail
  refine (K9.out _).mono ?_
  rintro e w1 ⟨rfl, hb⟩
  have hB1 := kcall hB0 hb
  replace hR := hR.bel hb
  replace hS := hS.bel hb
  clear hb hB0
  go_wp2_with fail
  refine (Fr.out _ hR).mono ?_
  rintro e w' ⟨rfl, rfl⟩
  go_wp2_with fail
  refine (K16.out _ hR hS).mono ?_
  rintro e w2 ⟨Av, cv, rfl, hV, hb⟩
  have hB2 := kcall hB1 hb
  go_wp2
  go_ret
  exact ⟨rfl, hB2⟩
set_option maxRecDepth 100000 in
set_option maxHeartbeats 16000000 in
theorem more_ok (A B : Option Addr) (c d : Nat) (r : List (List Int)) (n : Int) (l : List Int) (w : World) (hR : Rel w A c r) (hS : Sl ic 1 w B d l) (hr : few31 r = true) (hl : ¬ 20 < l.length) (he : P.argE r n n l = 0) : Calls Try.prog 8 #[.slice A r.length c, .int .i64 n, .slice B l.length d] w fun e w' => e = .returned (.bool true) ∧ Below w.heap.size w w' := by
  have K9 := hide sane31_any
  have Fr := hide (fun w (hR : Rel w A c r) => few10_any A c r w hR)
  rw [hr] at Fr
  have hB0 := Below.refl w.heap.size w
  have hR_a := hR.le
  have hR_b := hR.max
  have hS_a := hS.le
  have hS_b := hS.max
  have g1 : decide ((20 : Int) < l.length) = false := by simp; omega
  have hl20 : l.length ≤ 20 := by omega
  have hrl : r.length ≤ 4096 := (P.chk_zero.1 (P.argE_zero.1 he).1).1
  have K16 := hide (fun w (hR : Rel w A c r) (hS : Sl ic 1 w B d l) => reach16_sl A B c d r n l w hR hS)
  have F1 := hide (fun x (hx : x ∈ l) => P.one_of he hx)
  have F2 := hide (fun l' (h : List.Sublist l' l) => P.fewer_of he h)
  have FL := hide (flatK_filter he)
  have KA := hide (fun A2 c2 l' w (hR : Rel w A c r) (hS : Sl ic 1 w A2 c2 l') => reach16_any A A2 c c2 r n l' w hR hS)
  have KB := hide (fun A2 c2 l' w (hS : Sl ic 1 w A2 c2 l') => refBelow22_any A2 c2 l' r.length w hS)
  have KL := hide (fun A2 c2 t w (hV : Sl ic 1 w A2 c2 (P.reachL r n l)) => has21_any A2 c2 _ t w hV)
  have HMb := hide (fun x => P.reachL_below (r := r) (n := n) (src := [x]))
  rw [he] at K16
  obtain ⟨i0, hi, hz0, hz1, hz2⟩ := info_parts Try_info3
  have HI := hide hi
  obtain ⟨i4, hi4, hy0, hy1, hy3⟩ := info_parts Try_info4
  have hmk := fun W => run_make_rowN (P := Try.prog) 39 4 i4 (.bool false) Try.underlying39 hi4 hy0 .i64 .i64 r.length r.length (Nat.le_refl _) (by rw [hy3]; omega) (by omega) W
  have hm0 : madeCells (Value.bool false).cells (r.length * i4.size) = flagA [] r.length := by
    rw [hy1, Nat.mul_one]
    apply Array.toList_inj.1
    rw [show (Value.bool false).cells = #[Value.bool false] from rfl, toList_madeCells_one]
    simp only [flagA, List.contains_nil, List.map_const', List.length_range]
  rw [hm0] at hmk
  clear hr hl he hi hi4 hy0 hy1 hy3 hm0
  go_enter Try.func8, Try.ntmps8
  go_wp2_with fail
  refine (K9.out _).mono ?_
  rintro e w1 ⟨rfl, hb⟩
  have hB1 := kcall hB0 hb
  replace hR := hR.bel hb
  replace hS := hS.bel hb
  clear hb hB0
  go_wp2_with fail
  refine (Fr.out _ hR).mono ?_
  rintro e w' ⟨rfl, rfl⟩
  go_wp2_with fail
  refine (K16.out _ hR hS).mono ?_
  rintro e w3 ⟨Av, cv, rfl, hV, hb⟩
  have hB3 := hide (kcall hB1 hb)
  replace hR := hide (hR.bel hb)
  replace hS := hide (hS.bel hb)
  have hV_a := hV.le
  have hV_b := hV.max
  replace hV := hide hV
  clear hb hB1 K9 Fr K16
  go_wp2
  clear hmk
  go_loopw [10] (fun i wr => ∃ k : Nat, k ≤ l.length ∧ i = .int .i64 k ∧ Below w3.heap.size w3 wr ∧ Blk wr w3.heap.size 4 (flagA (flatK r n (l.take k)) r.length)) (fun i _ => l.length - (nI i).toNat)
  case atStart => exact ⟨0, Nat.zero_le _, rfl, kalloc (Below.refl _ _) _, by simpa [flatK] using Blk.new w3 (flagA [] r.length) 4⟩
  case round =>
    obtain ⟨k, hk, rfl, hb, hI⟩ := hrel
    have hN := hb.size
    have hIlt := hI.lt
    by_cases hlt : k < l.length
    · obtain ⟨x, bl, ol, hx, hdr, hA, hbl, c1⟩ := hS.out.ic_at hlt
      subst hA
      have f1 := F1.out x (List.mem_of_getElem? hx)
      have hsub : Sl ic 1 wr (some ⟨bl, ol + k, none⟩) (d - k) [x] := ic_part (hS.out.bel hb) k [x] (fun i v hv => by
        match i, hv with
        | 0, hv => simp at hv; subst hv; simpa using hx
        | i + 1, hv => simp at hv) (by simp; omega) (by omega)
      have K1 := hide (KA.out _ _ [x] wr (hR.out.bel hb) hsub)
      rw [f1] at K1
      have e1 := hide (flatK_next (r := r) (n := n) hx)
      have hMb := HMb.out x
      have hkl : l.take k ++ l.drop (k + 1) = l.take k ++ l.drop (k + 1) := rfl
      obtain ⟨f2, f3⟩ := F2.out (l.take k ++ l.drop (k + 1)) (by
        conv => rhs; rw [← List.take_append_drop k l, hdr]
        exact List.Sublist.append (List.Sublist.refl _) (List.sublist_cons_self _ _))
      generalize hMg : P.reachL r n [x] = M at K1 e1 hMb
      generalize flatK r n (l.take k) = pre at *
      clear hMg f1 hsub hdr hx
      have k1 : (0 : Int) ≤ (k : Int) := by omega
      have k2 : (k : Int) < (l.length : Int) := by omega
      have k3 : (k : Int) + 1 ≤ (l.length : Int) := by omega
      have k4 : (k : Int) ≤ (k : Int) + 1 := by omega
      have k5 : (0 : Int) ≤ (k : Int) + 1 := by omega
      have k6 : ((k : Int) + 1).toNat = k + 1 := by omega
      have k7 : (k : Int) + 1 - (k : Int) = 1 := by omega
      have k8 : (k : Int) + 1 ≤ (d : Int) := by omega
      have k10 : (k : Int) ≤ (d : Int) := by omega
      have k9 : IntKind.i64.wrap ((k : Int) + 1) = (k : Int) + 1 := IntWalk.i64_in _ (by omega)
      have HI1 := hide hI
      clear hI
      simp only [List.length_cons, List.length_nil, Nat.zero_add] at K1
      go_wp2_with fail
      refine (K1.out).mono ?_
      rintro e w4 ⟨vM, rfl, hM, hb4⟩
      obtain ⟨AM, cM, rfl, hMs⟩ := hM.sl
      have hB4 := kcall hb hb4
      have K2 := hide (KB.out AM cM M w4 hMs)
      rw [hMb] at K2
      have HM := hM.mono (show w3.heap.size + 1 ≤ wr.heap.size by omega)
      have hI4 := HI1.out.bel hb4
      have hM_a := hMs.le
      have hM_b := hMs.max
      have hMin := hide ((P.below_iff _ _).1 hMb).1
      clear hb4 hb HI1 K1 hM hMs hMb hIlt hN
      go_wp2_with fail
      refine (K2.out).mono ?_
      rintro e w5 ⟨rfl, hb5⟩
      have hB5 := kcall hB4 hb5
      replace HM := hide (HM.bel hb5)
      have HI5 := hide (hI4.bel hb5)
      clear hb5 hI4 hB4 K2
      go_wp2
      go_loopw [13] (fun j wr => ∃ h : Nat, h ≤ M.length ∧ j = .int .i64 h ∧ Below w3.heap.size w3 wr ∧ Blk wr w3.heap.size 4 (flagA (pre ++ M.take h) r.length) ∧ OwnL ic 1 3 wr (w3.heap.size + 1) (.slice AM M.length cM) M) (fun j _ => M.length - (nI j).toNat)
      case atStart => exact ⟨0, Nat.zero_le _, rfl, hB5, by simpa using HI5.out, HM.out⟩
      case round =>
        obtain ⟨h, hh, rfl, hb3, hI3, hO3⟩ := hrel
        by_cases hlh : h < M.length
        · obtain ⟨z, bz, oz, hz, hdr3, hAz, hbz, c3⟩ := (own_slice hO3).2.ic_at hlh
          subst hAz
          have hzb := hMin.out z (List.mem_of_getElem? hz)
          obtain ⟨t, rfl⟩ : ∃ t : Nat, z = (t : Int) := ⟨z.toNat, by omega⟩
          have htm : (t : Int) < (r.length : Int) := hzb.2
          have e2 := hide (show flagA ((pre ++ M.take h) ++ [(t : Int)]) r.length = flagA (pre ++ M.take (h + 1)) r.length by rw [take_of_get hz, List.append_assoc])
          have hco := hI3.cell t (flagA_get _ (show t < r.length by omega))
          have hth := hI3.thaw t
          have hIlt := hI3.lt
          have HI3 := hide hI3
          have HO4 := hide (hO3.keep (w' := wr.setCell ⟨w3.heap.size, t, none⟩ (.bool true)) (fun g hg => Below.heap_setCell _ _ _ _ (by dsimp only; have := (hO3.blk hg).1; omega)))
          clear hdr3 hz hI3 hzb HI5 hO3 HM
          go_wp2
          go_roundw
          case rel => exact ⟨h + 1, by omega, by go_num, hb3.setCell (by dsimp only; omega) _, by rw [← e2.out, ← flagA_set]; exact HI3.out.set t _ rfl, HO4.out⟩
          case measure => simp [nI]; omega
        · obtain rfl : h = M.length := by omega
          rw [List.take_length, ← e1.out] at hI3
          have HI3 := hide hI3
          have hN := hb3.size
          have hIlt := hI3.lt
          have hS6 := hS.out.bel hb3
          have HT1 := hide (sl_take hS6 k)
          have HT2 := hide (show Sl ic 1 wr (if d = k + 1 then some ⟨bl, ol, none⟩ else some ⟨bl, ol + (k + 1), none⟩) (d - (k + 1)) (l.drop (k + 1)) by
            split
            · rw [List.drop_of_length_le (by omega)]; exact Sl.nil (by omega)
            · exact ic_part (c' := d - (k + 1)) hS6 (k + 1) (l.drop (k + 1)) (fun i v hv => by rwa [List.getElem?_drop] at hv) (by simp; omega) (by omega))
          have hT1l : (l.take k).length = k := by simp; omega
          have hT2l : (l.drop (k + 1)).length = l.length - (k + 1) := by simp
          have KF := hide (fun A2 c2 w (hR : Rel w A c r) (hT : Sl ic 1 w A2 c2 (l.take k ++ l.drop (k + 1))) => KA.out A2 c2 _ w hR hT)
          rw [f2] at KF
          have f4 := hide f3
          generalize l.take k = T1 at *
          generalize l.drop (k + 1) = T2 at *
          have HR := hide (hR.out.bel hb3)
          clear hI3 hO3 hS6 f3 f2 HM HI5 hB5 hkl
          go_wp2_with fail
          go_region_held3 (fun _ => True) (first | trivial)
            (first
              | (refine step_append (v := .slice (some ⟨_, 0, none⟩) 0 0) (u := .slice (some ⟨bl, ol, none⟩) k d) rfl (.tmp 85) (.tmp 88) 31 rfl rfl rfl (run_ext_n (base := wr.heap.size) (l1 := []) (l2 := T1) Try.underlying31 HI.out hz0 hz1 hz2 rfl (OwnL.fresh' (by simp) (by omega)).drew hT1l (HT1.out.alloc _).drew (by simp [maxLen]; omega) (by simp; omega) (by simp <;> omega)) ?_
                 rintro v' w' ⟨gO, gG, gB⟩
                 have gN : wr.heap.size ≤ w'.heap.size := Nat.le_trans (by simp <;> omega) gG.size
                 have gBel : Below wr.heap.size wr w' := Below.grown ((Below.refl _ _).alloc (Nat.le_refl _) _).drew gG (by simp <;> omega) (fun k hk => by simp [Value.ownBlock] at hk; omega)
                 have gT := HT2.out.bel gBel
                 rw [List.nil_append] at gO)
              | (refine step_append (v := v') (u := .slice (if d = k + 1 then some ⟨bl, ol, none⟩ else some ⟨bl, ol + (k + 1), none⟩) (l.length - (k + 1)) (d - (k + 1))) rfl (.tmp 89) (.tmp 93) 31 rfl rfl rfl (run_ext_n (base := wr.heap.size) (l1 := T1) (l2 := T2) Try.underlying31 HI.out hz0 hz1 hz2 rfl gO hT2l gT (by simp [maxLen]; omega) (by omega) gN) ?_
                 rintro v'' w'' ⟨gO2, gG2, gB2⟩
                 have gBel2 : Below wr.heap.size wr w'' := Below.grown gBel gG2 gN (fun k hk => (gO.blk hk).1)
                 obtain ⟨A9, c9, rfl, hS9⟩ := gO2.sl
                 clear gO2 gG2 gB2 gO gG gB gT
                 generalize T1 ++ T2 = T at *
                 generalize (if d = k + 1 then some (Addr.mk bl ol none) else some (Addr.mk bl (ol + (k + 1)) none)) = A93 at *)
              | (go_at_call 16; refine (KF.out A9 c9 w'' (HR.out.bel gBel2) hS9).mono ?_; rintro e w9 ⟨v9, rfl, hO9, hb9⟩))
          obtain ⟨AW, cW, rfl, hWs⟩ := hO9.sl
          have hB9 := kcall (kcall hb3 gBel2) hb9
          have HI9 := hide ((HI3.out.bel gBel2).bel hb9)
          have HV9 := hide (hV.out.bel hB9)
          replace hB9 := hide hB9
          have hW_a := hWs.le
          have hW_b := hWs.max
          clear hO9 hb9 gBel gBel2 gN KF HI3 HR HT1 HT2 hb3 hS9 KA KB
          generalize P.reachL r n T = W at *
          have HW := hide hWs
          clear hWs
          go_wp2
          go_loopw [16] (fun j wq => ∃ h : Nat, h ≤ W.length ∧ j = .int .i64 h ∧ wq = w9) (fun j _ => W.length - (nI j).toNat)
          case atStart => exact ⟨0, Nat.zero_le _, rfl, rfl⟩
          case round =>
            obtain ⟨h, hh, rfl, rfl⟩ := hrel
            by_cases hlh : h < W.length
            · obtain ⟨z, bz, oz, hz, hdr3, hAz, hbz, c3⟩ := HW.out.ic_at hlh
              subst hAz
              have K := hide (KL.out Av cv z _ HV9.out)
              have hin : (P.reachL r n l).contains z = true := by simpa using f4.out z (List.mem_of_getElem? hz)
              rw [hin] at K
              clear hz hdr3 hin
              go_wp2_with fail
              refine (K.out).mono ?_
              rintro e w' ⟨rfl, rfl⟩
              go_wp2
              go_roundw
              case rel => exact ⟨h + 1, by omega, by go_num, by first | trivial | rfl⟩
              case measure => simp [nI]; omega
            · obtain rfl : h = W.length := by omega
              go_wp2
              go_roundw
              case rel => exact ⟨k + 1, by omega, by go_num, hB9.out, HI9.out⟩
              case measure => simp [nI]; omega
    · obtain rfl : k = l.length := by omega
      rw [List.take_length] at hI
      have HI2 := hide hI
      clear hI KA KB F1 F2 HMb
      generalize flatK r n l = F at *
      go_wp2
      go_loopw [17, 18] (fun v i wr => ∃ k : Nat, k ≤ r.length ∧ i = .int .i64 k ∧ Below w3.heap.size w3 wr ∧ Blk wr w3.heap.size 4 (flagA F r.length) ∧ OwnL ic 1 3 wr (w3.heap.size + 1) v ((P.rng k).filter (fun s => F.contains s))) (fun _ i _ => r.length - (nI i).toNat)
      case atStart => exact ⟨0, Nat.zero_le _, rfl, hb, HI2.out, OwnL.nil _ _ _ _ _⟩
      case round =>
        obtain ⟨k, hk, rfl, hb3, hI3, hO⟩ := hrel
        have hN := hb3.size
        by_cases hlk : k < r.length
        · have hco := hI3.cell k (flagA_get _ hlk)
          have hIlt3 := hI3.lt
          have hkm : (k : Int) < (r.length : Int) := by omega
          have e1 := hide (show (P.rng ((k + 1 : Nat) : Int)).filter (fun s => F.contains s) = (P.rng k).filter (fun s => F.contains s) ++ (if F.contains (k : Int) = true then [(k : Int)] else []) by
            rw [Int.natCast_succ, P.rng_succ, List.filter_append, List.filter_cons, List.filter_nil])
          have hll : ((P.rng k).filter (fun s => F.contains s)).length ≤ 4096 := by
            have := List.length_filter_le (fun s => F.contains s) (P.rng k)
            rw [P.rng_length] at this
            omega
          have HI3 := hide hI3
          have HO := hide hO
          generalize (P.rng k).filter (fun s => F.contains s) = La at *
          generalize F.contains (k : Int) = v at hco e1
          clear hI3 hO HI2
          cases v
          · go_wp2
            go_roundw
            case rel => exact ⟨k + 1, by omega, by go_num, hb3, HI3.out, by rw [e1.out]; simpa using HO.out⟩
            case measure => simp [nI]; omega
          · go_wp2_with (at_builtin; refine wpList_push (f := ic) (y := (k : Int)) (l := La) rfl (.tmp 123) (.tmp 125) 31 rfl Try.underlying31 HI.out hz0 hz1 hz2 rfl (by decide) rfl (HO.out.alloc _) rfl (heap_new _ _) rfl rfl ?_ ?_ ?_ ?_ ?_)
            · simp [Value.oneCell', ic]
            · simp only [maxLen]; omega
            · omega
            · intro v6 w6 hO6 hgr hat
              have H6 := hide hO6
              have hb6 := hide (Below.grown (hb3.alloc hN (Obj.cells #[.int .i64 k] 3)) hgr (by simp; omega) (fun g hg => by have := (HO.out.blk hg).1; omega))
              have hI6 := hide ((HI3.out.alloc (Obj.cells #[.int .i64 k] 3)).grown hgr (fun e => by have := (HO.out.blk e.symm).1; omega))
              clear hO6 hgr hat HO HI3
              go_wp2
              go_roundw
              case rel => exact ⟨k + 1, by omega, by go_num, hb6.out, hI6.out, by rw [e1.out]; simpa using H6.out⟩
              case measure => simp [nI]; omega
        · obtain rfl : k = r.length := by omega
          rw [FL.out] at hO
          obtain ⟨A2, c2, rfl, hWs⟩ := hO.sl
          have HV9 := hV.out.bel hb3
          clear hO hI3 HI2
          go_wp2_with fail
          refine (ints_lit HV9 hWs _ rfl).mono ?_
          rintro e w9 ⟨rfl, hb9⟩
          have hB9 := hide (kcall hB3.out (kcall hb3 hb9))
          go_wp2
          go_ret
          exact ⟨rfl, hB9.out⟩
theorem provenanceMore_law (A B : Option Addr) (c d : Nat) (r : List (List Int)) (n : Int) (l : List Int) (w : World) (hR : Rel w A c r) (hS : Sl ic 1 w B d l) : Calls Try.prog 8 #[.slice A r.length c, .int .i64 n, .slice B l.length d] w fun e w' => e = .returned (.bool true) ∧ Below w.heap.size w w' := by
  cases hr : few31 r
  · exact more_few A B c d r n l w hR hS (.inl hr)
  · by_cases hl : 20 < l.length
    · exact more_few A B c d r n l w hR hS (.inr ⟨hr, hl⟩)
    · by_cases he : P.argE r n n l = 0
      · exact more_ok A B c d r n l w hR hS hr hl he
      · exact more_bad A B c d r n l w hR hS hr hl he
end Go.Proofs.Ytlobgdnhmhdhbaa

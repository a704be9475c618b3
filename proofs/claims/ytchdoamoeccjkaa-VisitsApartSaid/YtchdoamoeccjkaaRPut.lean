/-
  The reference's put.
-/
import Derived.Test.YtchdoamoeccjkaaRRef
import Derived.Deep.RegionHeld3
namespace Go.Proofs.Ytchdoamoeccjkaa
open Go.RowKit Go.Shelf Go.Mine Go.Mine.R
attribute [local go_sem] Oper.semAt_some

theorem Try_info3' : (Try.prog.info? 3).map (fun i => (i.zero, i.size, i.bytes)) = some (some (.int .i64 0), 1, 8) := by kernel_rfl
theorem ic_one (l : List Int) : ∀ x ∈ l, ∀ u ∈ ic x, u.oneCell' = true := by intro x _ u hu; simp [ic] at hu; subst hu; rfl
theorem run_ext_n {P : Program} {w : World} {t ty e : TypeId} {base : Nat} {i : TypeInfo} {z : Value} {bytes : Nat} (ht : P.underlying t = some (.slice e)) (hi : P.info? e = some i) (hz : i.zero = some z)
    (hsize : i.size = 1) (hby : i.bytes = bytes) (hzs : z.cells.size = 1) {v : Value} {l1 l2 : List Int} (hown : OwnL ic 1 e w base v l1) {A : Option Addr} {c n : Nat} (hn : l2.length = n) (h2 : Sl ic 1 w A c l2)
    (h63 : l1.length + n ≤ maxLen) (hbytes : (l1.length + n) * bytes ≤ 140737488355328) (hbase : base ≤ w.heap.size) :
    ∃ v' w', (Builtin.append_ #[t, t] ty #[v, .slice A n c]).run P w = .ok v' w' ∧ OwnL ic 1 e w' base v' (l1 ++ l2) ∧ w.grownBy w' v.ownBlock ∧ (∀ g, v'.ownBlock = some g → v.ownBlock = some g ∨ w.heap.size ≤ g) := by
  subst hn
  exact run_extend ht hi hz hsize hby hzs (by decide) hown h2 (ic_one _) h63 hbytes hbase
theorem ic_part {w : World} {b off c c' : Nat} {l : List Int} (h : Sl ic 1 w (some ⟨b, off, none⟩) c l) (k : Nat) (l' : List Int) (hl : ∀ i v, l'[i]? = some v → l[k + i]? = some v) (hc : l'.length ≤ c') (hc2 : c' ≤ 9223372036854775807) : Sl ic 1 w (some ⟨b, off + k, none⟩) c' l' := by
  refine ⟨hc, hc2, fun _ _ => rfl, fun hn => ⟨b, off + k, rfl, ?_, fun i v hv => ?_⟩⟩
  · have hx := hl 0 _ (List.getElem?_eq_getElem (List.length_pos_iff.2 hn))
    obtain ⟨b', off', e, hb, _⟩ := h.cells (by rintro rfl; simp at hx)
    simp only [Option.some.injEq, Addr.mk.injEq, and_true] at e
    rw [e.1]; exact hb
  · have e1 : l'.flatMap ic = l'.map (Value.int .i64) := by rw [List.map_eq_flatMap]; rfl
    rw [e1, List.getElem?_map] at hv
    obtain ⟨y, hy, rfl⟩ := Option.map_eq_some_iff.1 hv
    have hx := hl i y hy
    obtain ⟨b', off', e, hb, hcell⟩ := h.cells (by rintro rfl; simp at hx)
    simp only [Option.some.injEq, Addr.mk.injEq, and_true] at e
    obtain ⟨rfl, rfl⟩ := e
    have e2 : l.flatMap ic = l.map (Value.int .i64) := by rw [List.map_eq_flatMap]; rfl
    have := hcell (k + i) (.int .i64 y) (by rw [e2, List.getElem?_map, hx]; rfl)
    rw [Nat.add_assoc]; exact this
theorem sl_take {w : World} {A : Option Addr} {c : Nat} {l : List Int} (h : Sl ic 1 w A c l) (k : Nat) : Sl ic 1 w A c (l.take k) := by
  refine ⟨Nat.le_trans (List.length_take_le' _ _) h.le, h.max, fun _ _ => rfl, fun hn => ?_⟩
  obtain ⟨b, off, e, hb, hc⟩ := h.cells (by rintro rfl; simp at hn)
  refine ⟨b, off, e, hb, fun i v hv => hc i v ?_⟩
  have e1 : l.flatMap ic = (l.take k).flatMap ic ++ (l.drop k).flatMap ic := by rw [← List.flatMap_append, List.take_append_drop]
  rw [e1, List.getElem?_append_left (List.getElem?_eq_some_iff.1 hv).1]; exact hv
set_option maxRecDepth 100000 in
set_option maxHeartbeats 2000000 in
theorem put87_any (b o c : Nat) (l : List Int) (n most : Int) (w : World) (hS : Sl ic 1 w (some ⟨b, o, none⟩) c l) (hs : l.Pairwise (· < ·)) (hl : l.length ≤ 100000) :
    Calls Try.prog 87 #[.slice (some ⟨b, o, none⟩) l.length c, .int .i64 n, .int .i64 most] w fun e w' => ∃ b' o' c', e = .returned (.slice (some ⟨b', o', none⟩) (putIn most l n).length c') ∧ Sl ic 1 w' (some ⟨b', o', none⟩) c' (putIn most l n) ∧ Below w.heap.size w w' := by
  have hlc := hS.le
  have hc := hS.max
  obtain ⟨i0, hi, hz0, hz1, hz2⟩ := info_parts Try_info3'
  have HI := hide hi
  clear hi
  have E := hide (show putIn most l n = if n < 0 ∨ most < n then l else put l n from rfl)
  by_cases h1 : n < 0
  · rw [if_pos (Or.inl h1)] at E
    have HS := hide hS
    clear hS hs
    go_enter Try.func87, Try.ntmps87
    go_wp2
    go_ret
    exact ⟨b, o, c, by rw [E.out]; rfl, by rw [E.out]; exact HS.out, Below.refl _ _⟩
  · by_cases h2 : most < n
    · rw [if_pos (Or.inr h2)] at E
      have HS := hide hS
      clear hS hs
      go_enter Try.func87, Try.ntmps87
      go_wp2
      go_ret
      exact ⟨b, o, c, by rw [E.out]; rfl, by rw [E.out]; exact HS.out, Below.refl _ _⟩
    · rw [if_neg (by omega)] at E
      have HP := hide fun k (h1 : ∀ x ∈ l.take k, x < n) h2 => put_at hs h1 h2
      go_enter Try.func87, Try.ntmps87
      go_wp2
      go_loopw [7] (fun i wr => ∃ k : Nat, k ≤ l.length ∧ i = .int .i64 k ∧ (∀ x ∈ l.take k, x < n) ∧ w = wr) (fun i _ => l.length - (nI i).toNat)
      case atStart => exact ⟨0, Nat.zero_le _, rfl, by simp, rfl⟩
      case round =>
        obtain ⟨k, hk, rfl, hq, rfl⟩ := hrel
        by_cases hlt : k < l.length
        · obtain ⟨x, bb, off, hx, hdr, hA, hbw, c0⟩ := Sl.ic_at hS hlt
          simp only [Option.some.injEq, Addr.mk.injEq, and_true] at hA
          obtain ⟨rfl, rfl⟩ := hA
          have HQ := hide hq
          have HX := hide hx
          clear hdr hx hq
          by_cases hxn : x < n
          · clear hS hs
            go_wp2
            go_roundw
            case rel => exact ⟨k + 1, by omega, by go_num, by rw [take_of_get HX.out]; intro y hy; rcases List.mem_append.1 hy with hy | hy; exact HQ.out y hy; simp at hy; subst hy; exact hxn, by first | trivial | rfl⟩
            case measure => simp [nI]; omega
          · have hp := HP.out k HQ.out (fun y hy => by rw [HX.out] at hy; have := Option.some.inj hy; omega)
            rw [HX.out] at hp
            by_cases hxe : x = n
            · rw [if_pos (by rw [hxe])] at hp
              have gx : (x == n) = true := by simp [hxe]
              have HE := hide (E.out.trans hp)
              have HS := hide hS
              clear hS hs hp E
              go_wp2
              go_ret
              exact ⟨b, o, c, by rw [HE.out]; rfl, by rw [HE.out]; exact HS.out, Below.refl _ _⟩
            · rw [if_neg (by intro e; exact hxe (Option.some.inj e))] at hp
              have gx : (x == n) = false := by simp [hxe]
              have HE := hide (E.out.trans hp)
              have HT1 := hide (sl_take hS k)
              have HT2 := hide (show Sl ic 1 w (if c = k then some ⟨b, o, none⟩ else some ⟨b, o + k, none⟩) (c - k) (l.drop k) by
                rw [if_neg (by omega)]
                exact ic_part (c' := c - k) hS k (l.drop k) (fun i v hv => by rwa [List.getElem?_drop] at hv) (by simp; omega) (by omega))
              have hT1l : (l.take k).length = k := by simp; omega
              have hT2l : (l.drop k).length = l.length - k := by simp
              clear hS hs hp E HP
              generalize l.take k = T1 at *
              generalize l.drop k = T2 at *
              have i0' : (0 : Int) ≤ k := by omega
              have i1' : (k : Int) ≤ l.length := by omega
              have i2' : (l.length : Int) ≤ c := by omega
              have i3' : (k : Int) ≤ c := by omega
              go_wp2_with fail
              go_region_law (first
                | (refine step_append (v := .slice (some ⟨_, 0, none⟩) 0 0) (u := .slice (some ⟨b, o, none⟩) k c) rfl (.tmp 43) (.tmp 46) 33 rfl rfl rfl (run_ext_n (base := w.heap.size) (l1 := []) (l2 := T1) Try.underlying33 HI.out hz0 hz1 hz2 rfl (by first | exact (OwnL.fresh' (by simp) (by omega)).drew | exact ((OwnL.fresh' (by simp) (by omega)).alloc _).drew) hT1l (by first | exact (HT1.out.alloc _).drew | exact ((HT1.out.alloc _).alloc _).drew) (by first | omega | (simp; done) | (simp; omega) | (simp [maxLen]; done) | (simp [maxLen]; omega)) (by first | omega | (simp; done) | (simp; omega) | (simp [maxLen]; done) | (simp [maxLen]; omega)) (by first | omega | (simp; done) | (simp; omega) | (simp [maxLen]; done) | (simp [maxLen]; omega))) ?_
                   rintro v' w' ⟨gO, gG, gB⟩
                   have gBel : Below w.heap.size w w' := Below.grown (by first | exact (kalloc (Below.refl _ _) _).drew | exact (kalloc (kalloc (Below.refl _ _) _) _).drew) gG (by first | omega | (simp; done) | (simp; omega) | (simp [maxLen]; done) | (simp [maxLen]; omega)) (fun k hk => by simp [Value.ownBlock] at hk; omega)
                   have gN : w.heap.size ≤ w'.heap.size := gBel.size
                   try (have xB := Blk.grown (b := w.heap.size + 1) (cs := #[.int .i64 n]) (ty := 3) (Blk.drew (Blk.new' (by simp))) gG (by simp [Value.ownBlock]))
                   try (have xB := Blk.grown (b := w.heap.size) (cs := #[.int .i64 n]) (ty := 3) (Blk.drew (Blk.alloc (Blk.new' (by simp)) _)) gG (by simp [Value.ownBlock])))
                | (refine step_append (v := v') (u := .slice (some ⟨_, 0, none⟩) 1 1) rfl (.tmp 47) (.tmp 49) 33 rfl rfl rfl (run_ext_n (base := w.heap.size) (l1 := [] ++ T1) (l2 := [n]) Try.underlying33 HI.out hz0 hz1 hz2 rfl (by first | exact gO | exact gO.alloc _) rfl (by first | exact Sl.one xB rfl rfl (by decide) (by decide) | exact Sl.one (Blk.new' rfl) rfl rfl (by decide) (by decide)) (by first | omega | (simp; done) | (simp; omega) | (simp [maxLen]; done) | (simp [maxLen]; omega)) (by first | omega | (simp; done) | (simp; omega) | (simp [maxLen]; done) | (simp [maxLen]; omega)) (by first | exact gN | exact Nat.le_trans gN (by simp))) ?_
                   rintro v2 w2 ⟨gO2, gG2, gB2⟩
                   have gBel2 : Below w.heap.size w w2 := Below.grown (by first | exact gBel | exact gBel.alloc gN _) gG2 (by first | exact gN | exact Nat.le_trans gN (by simp)) (fun k hk => (gO.blk hk).1)
                   have gN2 := gBel2.size
                   have gT2 := HT2.out.bel gBel2)
                | (refine step_append (v := v2) (u := .slice (if c = k then some ⟨b, o, none⟩ else some ⟨b, o + k, none⟩) (l.length - k) (c - k)) rfl (.tmp 50) (.tmp 53) 33 rfl rfl rfl (run_ext_n (base := w.heap.size) (l1 := [] ++ T1 ++ [n]) (l2 := T2) Try.underlying33 HI.out hz0 hz1 hz2 rfl gO2 hT2l gT2 (by first | omega | (simp; done) | (simp; omega) | (simp [maxLen]; done) | (simp [maxLen]; omega)) (by first | omega | (simp; done) | (simp; omega) | (simp [maxLen]; done) | (simp [maxLen]; omega)) gN2) ?_
                   rintro v3 w3 ⟨gO3, gG3, gB3⟩
                   have gBel3 : Below w.heap.size w w3 := Below.grown gBel2 gG3 gN2 (fun k hk => (gO2.blk hk).1)))
              all_goals
                rw [List.nil_append, List.append_assoc] at gO3
                have hne : ∃ g cap, v3 = .slice (some ⟨g, 0, none⟩) (T1 ++ ([n] ++ T2)).length cap := by
                  obtain ⟨A9, c9, e9, hS9⟩ := gO3.sl
                  obtain ⟨b9, o9, h9, _⟩ := hS9.cells (by simp)
                  subst h9
                  obtain ⟨⟨_, h1⟩, _⟩ := gO3
                  rcases h1 with ⟨e, _⟩ | ⟨g, cap, cur, e, _⟩
                  · rw [e] at e9; cases e9
                  · exact ⟨g, cap, e⟩
                obtain ⟨g9, c9, rfl⟩ := hne
                obtain ⟨A8, c8, e8, hS8⟩ := gO3.sl
                simp only [Value.slice.injEq] at e8
                obtain ⟨rfl, _, rfl⟩ := e8
                have hres : putIn most l n = T1 ++ ([n] ++ T2) := by rw [HE.out]; rfl
                have HS8 := hide hS8
                have HB8 := hide gBel3
                clear gO gG gB gO2 gG2 gB2 gO3 gG3 gB3 gT2 gBel gBel2 hS8
                have Hres := hide hres
                clear hres HT1 HT2 hT1l hT2l HE
                generalize T1 ++ ([n] ++ T2) = TT at *
                go_wp2
                all_goals
                  go_ret
                  exact ⟨g9, 0, c9, by rw [Hres.out]; rfl, by rw [Hres.out]; exact HS8.out, HB8.out⟩
        · have hkl : l.length = k := by omega
          have hp := HP.out k hq (fun y hy => by rw [List.getElem?_eq_none (by omega)] at hy; cases hy)
          rw [if_neg (by rw [List.getElem?_eq_none (by omega)]; simp)] at hp
          have HE := hide (E.out.trans hp)
          have HT1 := hide (sl_take hS k)
          have HT2 := hide (show Sl ic 1 w (if c = k then some ⟨b, o, none⟩ else some ⟨b, o + k, none⟩) (c - k) (l.drop k) by
            rw [List.drop_of_length_le (by omega)]; exact Sl.nil (by omega))
          have hT1l : (l.take k).length = k := by simp; omega
          have hT2l : (l.drop k).length = 0 := by simp; omega
          clear hS hs hp E HP hq
          generalize l.take k = T1 at *
          generalize l.drop k = T2 at *
          generalize l.length = ll at *
          have hkl2 : ll ≤ k := by omega
          clear hkl
          have i0' : (0 : Int) ≤ k := by omega
          have i1' : (k : Int) ≤ ll := by omega
          have i2' : (ll : Int) ≤ c := by omega
          have i3' : (k : Int) ≤ c := by omega
          go_wp2_with fail
          go_region_law (first
            | (refine step_append (v := .slice (some ⟨_, 0, none⟩) 0 0) (u := .slice (some ⟨b, o, none⟩) k c) rfl (.tmp 43) (.tmp 46) 33 rfl rfl rfl (run_ext_n (base := w.heap.size) (l1 := []) (l2 := T1) Try.underlying33 HI.out hz0 hz1 hz2 rfl (by first | exact (OwnL.fresh' (by simp) (by omega)).drew | exact ((OwnL.fresh' (by simp) (by omega)).alloc _).drew) hT1l (by first | exact (HT1.out.alloc _).drew | exact ((HT1.out.alloc _).alloc _).drew) (by first | omega | (simp; done) | (simp; omega) | (simp [maxLen]; done) | (simp [maxLen]; omega)) (by first | omega | (simp; done) | (simp; omega) | (simp [maxLen]; done) | (simp [maxLen]; omega)) (by first | omega | (simp; done) | (simp; omega) | (simp [maxLen]; done) | (simp [maxLen]; omega))) ?_
               rintro v' w' ⟨gO, gG, gB⟩
               have gBel : Below w.heap.size w w' := Below.grown (by first | exact (kalloc (Below.refl _ _) _).drew | exact (kalloc (kalloc (Below.refl _ _) _) _).drew) gG (by first | omega | (simp; done) | (simp; omega) | (simp [maxLen]; done) | (simp [maxLen]; omega)) (fun k hk => by simp [Value.ownBlock] at hk; omega)
               have gN : w.heap.size ≤ w'.heap.size := gBel.size
               try (have xB := Blk.grown (b := w.heap.size + 1) (cs := #[.int .i64 n]) (ty := 3) (Blk.drew (Blk.new' (by simp))) gG (by simp [Value.ownBlock]))
               try (have xB := Blk.grown (b := w.heap.size) (cs := #[.int .i64 n]) (ty := 3) (Blk.drew (Blk.alloc (Blk.new' (by simp)) _)) gG (by simp [Value.ownBlock])))
            | (refine step_append (v := v') (u := .slice (some ⟨_, 0, none⟩) 1 1) rfl (.tmp 47) (.tmp 49) 33 rfl rfl rfl (run_ext_n (base := w.heap.size) (l1 := [] ++ T1) (l2 := [n]) Try.underlying33 HI.out hz0 hz1 hz2 rfl (by first | exact gO | exact gO.alloc _) rfl (by first | exact Sl.one xB rfl rfl (by decide) (by decide) | exact Sl.one (Blk.new' rfl) rfl rfl (by decide) (by decide)) (by first | omega | (simp; done) | (simp; omega) | (simp [maxLen]; done) | (simp [maxLen]; omega)) (by first | omega | (simp; done) | (simp; omega) | (simp [maxLen]; done) | (simp [maxLen]; omega)) (by first | exact gN | exact Nat.le_trans gN (by simp))) ?_
               rintro v2 w2 ⟨gO2, gG2, gB2⟩
               have gBel2 : Below w.heap.size w w2 := Below.grown (by first | exact gBel | exact gBel.alloc gN _) gG2 (by first | exact gN | exact Nat.le_trans gN (by simp)) (fun k hk => (gO.blk hk).1)
               have gN2 := gBel2.size
               have gT2 := HT2.out.bel gBel2)
            | (refine step_append (v := v2) (u := .slice (if c = k then some ⟨b, o, none⟩ else some ⟨b, o + k, none⟩) 0 (c - k)) rfl (.tmp 50) (.tmp 53) 33 rfl rfl rfl (run_ext_n (base := w.heap.size) (l1 := [] ++ T1 ++ [n]) (l2 := T2) Try.underlying33 HI.out hz0 hz1 hz2 rfl gO2 hT2l gT2 (by first | omega | (simp; done) | (simp; omega) | (simp [maxLen]; done) | (simp [maxLen]; omega)) (by first | omega | (simp; done) | (simp; omega) | (simp [maxLen]; done) | (simp [maxLen]; omega)) gN2) ?_
               rintro v3 w3 ⟨gO3, gG3, gB3⟩
               have gBel3 : Below w.heap.size w w3 := Below.grown gBel2 gG3 gN2 (fun k hk => (gO2.blk hk).1)))
          all_goals
            rw [List.nil_append, List.append_assoc] at gO3
            have hne : ∃ g cap, v3 = .slice (some ⟨g, 0, none⟩) (T1 ++ ([n] ++ T2)).length cap := by
              obtain ⟨A9, c9, e9, hS9⟩ := gO3.sl
              obtain ⟨b9, o9, h9, _⟩ := hS9.cells (by simp)
              subst h9
              obtain ⟨⟨_, h1⟩, _⟩ := gO3
              rcases h1 with ⟨e, _⟩ | ⟨g, cap, cur, e, _⟩
              · rw [e] at e9; cases e9
              · exact ⟨g, cap, e⟩
            obtain ⟨g9, c9, rfl⟩ := hne
            obtain ⟨A8, c8, e8, hS8⟩ := gO3.sl
            simp only [Value.slice.injEq] at e8
            obtain ⟨rfl, _, rfl⟩ := e8
            have hres : putIn most l n = T1 ++ ([n] ++ T2) := by rw [HE.out]; rfl
            have HS8 := hide hS8
            have HB8 := hide gBel3
            clear gO gG gB gO2 gG2 gB2 gO3 gG3 gB3 gT2 gBel gBel2 hS8
            have Hres := hide hres
            clear hres HT1 HT2 hT1l hT2l HE
            generalize T1 ++ ([n] ++ T2) = TT at *
            go_wp2
            all_goals
              go_ret
              exact ⟨g9, 0, c9, by rw [Hres.out]; rfl, by rw [Hres.out]; exact HS8.out, HB8.out⟩
end Go.Proofs.Ytchdoamoeccjkaa

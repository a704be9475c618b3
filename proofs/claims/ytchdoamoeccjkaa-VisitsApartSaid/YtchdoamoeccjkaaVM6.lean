/-
  visits.Present of right visits.
  visits, the reference's put; Present of right visits.
  visits, the reference's Present of right visits.
-/
import Derived.Test.YtchdoamoeccjkaaVM4
import Derived.Test.YtchdoamoeccjkaaRKeys
import Derived.Test.YtchdoamoeccjkaaVM1
import Derived.Maps.RangeWalk
import Derived.Test.YtchdoamoeccjkaaRPut
namespace Go.Proofs.Ytchdoamoeccjkaa
open Go.RowKit Go.Maps Go.Sort Go.Shelf Go.Mine Go.Mine.V
attribute [local go_sem] Oper.semAt_some

/-- slices.Sort of the call's own slice of numbers -/
theorem sort55_any (base : Nat) (v : Value) (ss : List Int) (w : World) (hO : OwnL ic 1 3 w base v ss) (hss : ss.length ≤ 1000000) :
    Calls Try.prog 55 #[v] w fun e w' => e = .returned (.tuple #[]) ∧ OwnL ic 1 3 w' base v (ss.mergeSort (fun x y => decide (x ≤ y))) ∧ w.grownBy w' v.ownBlock := by
  obtain ⟨⟨hl, h1⟩, hs⟩ := hO
  rcases h1 with ⟨rfl, hn⟩ | ⟨g, cap, cur, rfl, hg, hh, r1, r2, r3, r4⟩
  · obtain rfl : ss = [] := List.length_eq_zero_iff.1 hn
    refine (AnyM.slices_Sort_int_none sortA none 0 w).mono ?_
    rintro e w' ⟨rfl, rfl⟩
    exact ⟨rfl, by simpa using OwnL.nil ic 1 3 w' base, World.grownBy.refl _ _⟩
  · have e1 : ss.flatMap ic = ss.map encZ := by rw [List.map_eq_flatMap]; rfl
    rw [e1] at r4
    have hH : Holds encZ w g 0 ss.toArray := holds_of_block_i hh (by simpa using r4)
    have hgl : g < w.heap.size := (Array.getElem?_eq_some_iff.1 hh).1
    refine (AnyM.slices_Sort_int sortA g 0 cap ss w hH hgl (by omega)).mono ?_
    rintro e w' ⟨rfl, k, os, rfl⟩
    refine ⟨rfl, ⟨?_, fun _ _ => rfl⟩, grownBy_sorted_i _⟩
    have := ownsRow_sorted_i (ss := ss) (ts := ss.mergeSort (fun x y => decide (x ≤ y))) (os := os) (n := k) (by simp) hg hh r1 r2 r3
    rw [show (ss.mergeSort (fun x y => decide (x ≤ y))).flatMap ic = (ss.mergeSort (fun x y => decide (x ≤ y))).map encZ by rw [List.map_eq_flatMap]; rfl]
    rw [List.length_mergeSort]
    exact this
theorem Try_info3v : (Try.prog.info? 3).map (fun i => (i.zero, i.size, i.bytes)) = some (some (.int .i64 0), 1, 8) := by kernel_rfl
theorem has_left {H : Type} {P : Program} {k : TypeId} {R : Value → Option (DataW H × List MemPlace)} {w : World} {b r n : Nat} {D : DataW H} {left : Lit → Bool} {cnt : Nat} (h : Maps.has D = left) : ∀ kl, left kl = true → Maps.has D kl = true := fun kl hk => by rw [h]; exact hk
set_option maxRecDepth 100000 in
set_option maxHeartbeats 8000000 in
theorem Present22_good (A : Option Addr) (c : Nat) (l : List Vi) (lang t : Int) (w : World) (hS : Sl viC 4 w A c l) (hI : ∀ x ∈ l, ViS x) (hz : chk l = 0) (h1 : inB lang 32 = true) (h2 : inB t 1099511627776 = true) :
    Calls Try.prog 22 #[.slice A l.length c, .int .i64 lang, .int .i64 t] w fun e w' => ∃ v, e = .returned (.tuple #[v, .int .i64 0]) ∧ OwnL ic 1 3 w' w.heap.size v (pres l lang t) ∧ Below w.heap.size w w' := by
  have hll := (chk_go hz).2
  have K18 := hide (fun w (hS : Sl viC 4 w A c l) => by have := Check_any A c l w hS hI; rw [hz] at this; exact this)
  have KU := hide (fun w (hS : Sl viC 4 w A c l) => until_any A c l t w hS hI (by omega))
  have HP := hide (fun (p : List Int) (h : p.Pairwise (· < ·)) (hm : ∀ n, n ∈ p ↔ sight lang (upTo nobody t l n) = true) => pres_one (l := l) (g := lang) (t := t) h hm)
  obtain ⟨R, hR⟩ : ∃ R, pres l lang t = R := ⟨_, rfl⟩
  rw [hR]
  rw [hR] at HP
  generalize upTo nobody t l = a at *
  obtain ⟨i0, hi, hz0, hz1, hz2⟩ := info_parts Try_info3v
  have HI := hide hi
  clear hz hi
  go_enter Try.func22, Try.ntmps22
  go_wp2_with fail
  refine (K18.out w hS).mono ?_
  rintro e w1 ⟨rfl, hb1⟩
  go_wp2_with (first | (go_at_call 47; with_reducible refine (within_is h1 _).mono ?_; rintro e w' ⟨rfl, rfl⟩) | (go_at_call 47; with_reducible refine (within_is h2 _).mono ?_; rintro e w' ⟨rfl, rfl⟩))
  refine (KU.out w1 (hS.bel hb1)).mono ?_
  rintro e w2 ⟨rfl, hM, hb2⟩
  have hb2' := kcall hb1 hb2
  have hwz := hb1.size
  obtain ⟨D, hown, hm⟩ := hM
  have hsz := hown.size_le
  clear K18 KU hb1 hb2 hS
  go_wp2_with (at_range; refine wpList_range_own _ rfl _ 72 rfl 3 70 (int_keyed Try.underlying3) Try.underlying72 _ w1.heap.size _ D rfl hown ?_; intro w0 hrg0 hg0 hs0)
  go_frame
  have hml := hown.lt
  have hb1' := hb2'.size
  go_loopw [6] (fun v wr => ∃ (left : Lit → Bool) (cnt : Nat) (ss : List Int), wr.ranges Try.prog 3 anyElem w1.heap.size w2.heap.size l.length D left cnt ∧ ss.length + cnt ≤ l.length ∧ (∀ kl, left kl = true → Maps.has D kl = true) ∧ ss.Nodup ∧
      (∀ n : Int, n ∈ ss ↔ (sight lang (a n) = true ∧ Maps.has D (kI n) = true ∧ left (kI n) = false)) ∧ OwnL ic 1 3 wr (w2.heap.size + 1) v ss ∧ w2.heap.size + 1 ≤ wr.heap.size ∧ Below w.heap.size w wr) (fun _ wr => wr.rangeLeft w1.heap.size w2.heap.size)
  case atStart =>
    exact ⟨_, _, [], hrg0, by simp; omega, fun _ h => h, List.nodup_nil, fun n => by simp, OwnL.nil _ _ _ _ _, by omega, hb2'.grown hg0 (by have := hb2'.size; omega) (fun k hk => by cases hk)⟩
  case round =>
    obtain ⟨left, cnt, ss, hrg, hcs, hlh, hnd, hss, hO, hwr, hB⟩ := hrel
    clear hrg0 hg0 hs0 hb2' hown
    obtain ⟨A2, p2, hv, -⟩ := hO.sl
    subst hv
    go_wp2_with (at_next; refine wpList_next_ranges _ rfl _ rfl 3 (int_keyed Try.underlying3) anyElem (Value.int .i64) id (fun key kl hkey => by obtain ⟨x, rfl, _⟩ := Maps.keyOf_int_inv Try.underlying3 hkey; exact ⟨x, rfl⟩) (fun v y _ => ⟨v, rfl⟩) w1.heap.size w2.heap.size l.length D left cnt rfl hrg ?_ ?_)
    · intro hc0 hl0
      have hmem : ∀ n, n ∈ ss ↔ sight lang (a n) = true := fun n => by
        rw [hss n]
        constructor
        · exact fun h => h.1
        · intro h
          refine ⟨h, ?_, hl0 _⟩
          rw [(hm n).1]
          unfold audM
          rcases ha : a n with _ | s
          · rw [ha] at h; cases h
          · rfl
      have HQ := hide (HP.out (ss.mergeSort (fun x y => decide (x ≤ y))) (sorted_lt hnd) (fun n => by rw [(List.mergeSort_perm ss _).mem_iff]; exact hmem n))
      have HO := hide hO
      have HB := hide hB
      have KS := hide (sort55_any (w2.heap.size + 1) (.slice A2 ss.length p2) ss wr hO (by omega))
      clear hO hB hss hlh hrg hm hnd hmem HP
      go_wp2_with fail
      refine KS.out.mono ?_
      rintro e w9 ⟨rfl, hO9, hg9⟩
      have FIN := hide (And.intro (OwnL.mono (base' := w.heap.size) hO9 (by have := HB.out.size; omega)) (Below.grown HB.out hg9 (by have := HB.out.size; omega) (fun k hk => by have := (HO.out.blk hk).1; omega)))
      clear hO9 hg9
      go_wp2
      exact bodyPost_ret (v := .tuple #[.slice A2 ss.length p2, .int .i64 0]) (by simp [results, Try.results22, go_sem]) rfl ⟨_, rfl, by rw [← HQ.out]; exact FIN.out.1, FIN.out.2⟩
    · intro x c' kl y1 y2 w3 cnt' hkey hlk hy hat hrg1 hlt hg1 hs1 hen
      obtain ⟨x', ex, rfl, hwx⟩ := Maps.keyOf_int_inv Try.underlying3 hkey
      cases ex
      have hc' : c' = stW (a x) := by
        have e1 := hat (.held (.agg #[.bool false, .int .i64 0]))
        have e2 := (hm x).2 (.agg #[.bool false, .int .i64 0])
        rw [audM_get] at e2
        simp only [kI] at e2
        rw [e1] at e2
        simp only [anyElem, id, Option.some.injEq, Prod.mk.injEq] at hy
        rw [← hy.1] at e2
        simpa using e2
      obtain ⟨o, g, hst, hsight⟩ := stW_parts (a x) lang
      rw [hst] at hc'
      subst hc'
      have hhx : Maps.has D (kI x) = true := hlh _ hlk
      have hlx : left (kI x) = true := hlk
      have hnot : x ∉ ss := fun h => by have := ((hss x).1 h).2.2; rw [hlx] at this; cases this
      have hO1 := hO.keep (w' := w3) (fun q hq => hg1.block q (hO.blk hq).2.1 (fun e => by have := (hO.blk hq).1; have := Option.some.inj e; omega))
      have hB1 := hB.grown hg1 (by have := hb1'; omega) (fun k hk => by cases hk; omega)
      have hL : ∀ kl, (left kl && !kl.sameKey (.int .i64 x)) = true → Maps.has D kl = true := fun kl h => by
        rw [Bool.and_eq_true] at h; exact hlh kl h.1
      have hstep : ∀ n : Int, (left (kI n) && !(kI n).sameKey (.int .i64 x)) = false ↔ (left (kI n) = false ∨ n = x) := fun n => by
        have e1 : (kI n).sameKey (.int .i64 x) = decide (n = x) := by simp [kI, Lit.sameKey]
        rw [e1]
        by_cases hnx : n = x <;> simp [hnx]
      have HL := hide hL
      have HO := hide hO1
      have HB := hide hB1
      have HRG := hide hrg1
      have HM := hide hrg
      by_cases hon : o = true ∧ g = lang
      · obtain ⟨rfl, rfl⟩ := hon
        have HS := hide (show ∀ n : Int, n ∈ ss ++ [x] ↔ (sight g (a n) = true ∧ Maps.has D (kI n) = true ∧ (left (kI n) && !(kI n).sameKey (.int .i64 x)) = false) from fun n => by
          rw [List.mem_append, List.mem_singleton, hstep n, hss n]
          constructor
          · rintro (⟨p1, p2, p3⟩ | rfl)
            · exact ⟨p1, p2, .inl p3⟩
            · exact ⟨by rw [hsight]; simp, hhx, .inr rfl⟩
          · rintro ⟨p1, p2, p3 | rfl⟩
            · exact .inl ⟨p1, p2, p3⟩
            · exact .inr rfl)
        have HN := hide (show (ss ++ [x]).Nodup from List.nodup_append.2 ⟨hnd, by simp, by simp; exact fun y hy e => hnot (e ▸ hy)⟩)
        clear hO hO1 hB hB1 hss hlh hrg hrg1 hm hnd HP hat hy hkey hL hstep hst hsight hnot hlk hlx hhx hwx
        go_wp2_with (at_builtin; refine wpList_push rfl (.tmp 40) (.tmp 42) 33 rfl Try.underlying33 HI.out hz0 hz1 hz2 rfl (by decide) rfl ((HO.out.alloc _).alloc _) (y := x) (b := wr.heap.size + 1) rfl (by rw [← hs1]; exact new_row1 _ _ _) rfl rfl (by intro z hz; simp [ic] at hz; subst hz; rfl) ?_ ?_ ?_ ?_)
        · simp [maxLen]; omega
        · omega
        · first | omega | (simp; omega)
        · intro v' w9 hO9 hg9 hat9
          have hrow : ∀ q, (Value.slice A2 ss.length p2).ownBlock = some q → w2.heap.size + 1 ≤ q := fun q hq => (HO.out.blk hq).1
          have FIN := hide (And.intro ((HRG.out.alloc (.cells #[.bool true, .int .i64 g] 70)).alloc (.cells #[.int .i64 x] 3) |>.kept hg9 (fun e => by have := hrow _ e.symm; omega) (fun e => by have := hrow _ e.symm; omega)) (And.intro hO9 (And.intro hg9.size (Below.grown (kalloc (kalloc HB.out (.cells #[.bool true, .int .i64 g] 70)) (.cells #[.int .i64 x] 3)) hg9 (by have := HB.out.size; simp; omega) (fun k hk => by have := hrow k hk; omega)))))
          clear hO9 hg9 hat9 hrow
          go_wp2
          go_roundw
          case rel => exact ⟨_, cnt', _, FIN.out.1, by simp; omega, HL.out, HN.out, HS.out, FIN.out.2.1, by have := FIN.out.2.2.1; simp at this; omega, FIN.out.2.2.2⟩
          case measure => rw [FIN.out.1.left_eq, HM.out.left_eq]; exact hlt
      · have hoff : (o && decide (g = lang)) = false := by
          cases o
          · rfl
          · have : g ≠ lang := fun e => hon ⟨rfl, e⟩
            simp [this]
        have HS := hide (show ∀ n : Int, n ∈ ss ↔ (sight lang (a n) = true ∧ Maps.has D (kI n) = true ∧ (left (kI n) && !(kI n).sameKey (.int .i64 x)) = false) from fun n => by
          rw [hstep n, hss n]
          constructor
          · rintro ⟨p1, p2, p3⟩
            exact ⟨p1, p2, .inl p3⟩
          · rintro ⟨p1, p2, p3 | rfl⟩
            · exact ⟨p1, p2, p3⟩
            · rw [hsight, hoff] at p1; cases p1)
        have HN := hide hnd
        have FIN := hide (And.intro (HRG.out.alloc (.cells #[.bool o, .int .i64 g] 70)) (And.intro (HO.out.alloc (.cells #[.bool o, .int .i64 g] 70)) (kalloc HB.out (.cells #[.bool o, .int .i64 g] 70))))
        clear hO hO1 hB hB1 hss hlh hrg hrg1 hm hnd HP hat hy hkey hL hstep hst hsight hnot hlk hlx hhx hwx
        cases o
        · clear hon hoff
          go_wp2
          go_roundw
          case rel => exact ⟨_, cnt', _, FIN.out.1, by omega, HL.out, HN.out, HS.out, FIN.out.2.1, by simp; omega, FIN.out.2.2⟩
          case measure => rw [FIN.out.1.left_eq, HM.out.left_eq]; exact hlt
        · have gl : (g == lang) = false := by
            have : g ≠ lang := fun e => hon ⟨rfl, e⟩
            simp [this]
          clear hon hoff
          go_wp2
          go_roundw
          case rel => exact ⟨_, cnt', _, FIN.out.1, by omega, HL.out, HN.out, HS.out, FIN.out.2.1, by simp; omega, FIN.out.2.2⟩
          case measure => rw [FIN.out.1.left_eq, HM.out.left_eq]; exact hlt
end Go.Proofs.Ytchdoamoeccjkaa
namespace Go.Proofs.Ytchdoamoeccjkaa
open Go.RowKit Go.Shelf Go.Mine Go.Mine.V
open Go.Mine.R (put put_mem put_sorted put_at)
attribute [local go_sem] Oper.semAt_some

theorem putI_put {l : List Int} (hs : l.Pairwise (· < ·)) (n : Int) : putI l n = put l n :=
  sorted_one _ _ (putI_sorted l n hs) (put_sorted hs) fun m => (putI_mem l n m).trans (put_mem l n m).symm
set_option maxRecDepth 100000 in
set_option maxHeartbeats 2000000 in
theorem put56_any (b o c : Nat) (l : List Int) (n : Int) (w : World) (hS : Sl ic 1 w (some ⟨b, o, none⟩) c l) (hs : l.Pairwise (· < ·)) (hl : l.length ≤ 100000) :
    Calls Try.prog 56 #[.slice (some ⟨b, o, none⟩) l.length c, .int .i64 n] w fun e w' => ∃ b' o' c', e = .returned (.slice (some ⟨b', o', none⟩) (putI l n).length c') ∧ Sl ic 1 w' (some ⟨b', o', none⟩) c' (putI l n) ∧ Below w.heap.size w w' := by
  have hlc := hS.le
  have hc := hS.max
  obtain ⟨i0, hi, hz0, hz1, hz2⟩ := info_parts Try_info3'
  have HI := hide hi
  clear hi
  have E := hide (putI_put hs n)
  have HP := hide fun k (h1 : ∀ x ∈ l.take k, x < n) h2 => put_at hs h1 h2
  go_enter Try.func56, Try.ntmps56
  go_wp2
  go_loopw [5] (fun i wr => ∃ k : Nat, k ≤ l.length ∧ i = .int .i64 k ∧ (∀ x ∈ l.take k, x < n) ∧ w = wr) (fun i _ => l.length - (nI i).toNat)
  case atStart => exact ⟨0, Nat.zero_le _, rfl, by simp, rfl⟩
  case round =>
    obtain ⟨k, hk, rfl, hq, rfl⟩ := hrel
    by_cases hlt : k < l.length
    · obtain ⟨x, bb, off, hx, hdr, hA, hbw, c0⟩ := Sl.ic_at hS hlt
      simp only [Option.some.injEq, Addr.mk.injEq, and_true] at hA
      obtain ⟨rfl, rfl⟩ := hA
      have HQ := hide hq
      have HX := hide hx
      clear hdr hx hq
      by_cases hxn : x < n
      · clear hS hs
        go_wp2
        go_roundw
        case rel => exact ⟨k + 1, by omega, by go_num, by rw [take_of_get HX.out]; intro y hy; rcases List.mem_append.1 hy with hy | hy; exact HQ.out y hy; simp at hy; subst hy; exact hxn, by first | trivial | rfl⟩
        case measure => simp [nI]; omega
      · have hp := HP.out k HQ.out (fun y hy => by rw [HX.out] at hy; have := Option.some.inj hy; omega)
        rw [HX.out] at hp
        by_cases hxe : x = n
        · rw [if_pos (by rw [hxe])] at hp
          have gx : (x == n) = true := by simp [hxe]
          have HE := hide (E.out.trans hp)
          have HS := hide hS
          clear hS hs hp E
          go_wp2
          go_ret
          exact ⟨b, o, c, by rw [HE.out]; rfl, by rw [HE.out]; exact HS.out, Below.refl _ _⟩
        · rw [if_neg (by intro e; exact hxe (Option.some.inj e))] at hp
          have gx : (x == n) = false := by simp [hxe]
          have HE := hide (E.out.trans hp)
          have HT1 := hide (sl_take hS k)
          have HT2 := hide (show Sl ic 1 w (if c = k then some ⟨b, o, none⟩ else some ⟨b, o + k, none⟩) (c - k) (l.drop k) by
            rw [if_neg (by omega)]
            exact ic_part (c' := c - k) hS k (l.drop k) (fun i v hv => by rwa [List.getElem?_drop] at hv) (by simp; omega) (by omega))
          have hT1l : (l.take k).length = k := by simp; omega
          have hT2l : (l.drop k).length = l.length - k := by simp
          clear hS hs hp E HP
          generalize l.take k = T1 at *
          generalize l.drop k = T2 at *
          have i0' : (0 : Int) ≤ k := by omega
          have i1' : (k : Int) ≤ l.length := by omega
          have i2' : (l.length : Int) ≤ c := by omega
          have i3' : (k : Int) ≤ c := by omega
          go_wp2_with fail
          go_region_law (first
            | (refine step_append (v := .slice (some ⟨_, 0, none⟩) 0 0) (u := .slice (some ⟨b, o, none⟩) k c) rfl (.tmp 33) (.tmp 36) 33 rfl rfl rfl (run_ext_n (base := w.heap.size) (l1 := []) (l2 := T1) Try.underlying33 HI.out hz0 hz1 hz2 rfl (by first | exact (OwnL.fresh' (by simp) (by omega)).drew | exact ((OwnL.fresh' (by simp) (by omega)).alloc _).drew) hT1l (by first | exact (HT1.out.alloc _).drew | exact ((HT1.out.alloc _).alloc _).drew) (by first | omega | (simp; done) | (simp; omega) | (simp [maxLen]; done) | (simp [maxLen]; omega)) (by first | omega | (simp; done) | (simp; omega) | (simp [maxLen]; done) | (simp [maxLen]; omega)) (by first | omega | (simp; done) | (simp; omega) | (simp [maxLen]; done) | (simp [maxLen]; omega))) ?_
               rintro v' w' ⟨gO, gG, gB⟩
               have gBel : Below w.heap.size w w' := Below.grown (by first | exact (kalloc (Below.refl _ _) _).drew | exact (kalloc (kalloc (Below.refl _ _) _) _).drew) gG (by first | omega | (simp; done) | (simp; omega) | (simp [maxLen]; done) | (simp [maxLen]; omega)) (fun k hk => by simp [Value.ownBlock] at hk; omega)
               have gN : w.heap.size ≤ w'.heap.size := gBel.size
               try (have xB := Blk.grown (b := w.heap.size + 1) (cs := #[.int .i64 n]) (ty := 3) (Blk.drew (Blk.new' (by simp))) gG (by simp [Value.ownBlock]))
               try (have xB := Blk.grown (b := w.heap.size) (cs := #[.int .i64 n]) (ty := 3) (Blk.drew (Blk.alloc (Blk.new' (by simp)) _)) gG (by simp [Value.ownBlock])))
            | (refine step_append (v := v') (u := .slice (some ⟨_, 0, none⟩) 1 1) rfl (.tmp 37) (.tmp 39) 33 rfl rfl rfl (run_ext_n (base := w.heap.size) (l1 := [] ++ T1) (l2 := [n]) Try.underlying33 HI.out hz0 hz1 hz2 rfl (by first | exact gO | exact gO.alloc _) rfl (by first | exact Sl.one xB rfl rfl (by decide) (by decide) | exact Sl.one (Blk.new' rfl) rfl rfl (by decide) (by decide)) (by first | omega | (simp; done) | (simp; omega) | (simp [maxLen]; done) | (simp [maxLen]; omega)) (by first | omega | (simp; done) | (simp; omega) | (simp [maxLen]; done) | (simp [maxLen]; omega)) (by first | exact gN | exact Nat.le_trans gN (by simp))) ?_
               rintro v2 w2 ⟨gO2, gG2, gB2⟩
               have gBel2 : Below w.heap.size w w2 := Below.grown (by first | exact gBel | exact gBel.alloc gN _) gG2 (by first | exact gN | exact Nat.le_trans gN (by simp)) (fun k hk => (gO.blk hk).1)
               have gN2 := gBel2.size
               have gT2 := HT2.out.bel gBel2)
            | (refine step_append (v := v2) (u := .slice (if c = k then some ⟨b, o, none⟩ else some ⟨b, o + k, none⟩) (l.length - k) (c - k)) rfl (.tmp 40) (.tmp 43) 33 rfl rfl rfl (run_ext_n (base := w.heap.size) (l1 := [] ++ T1 ++ [n]) (l2 := T2) Try.underlying33 HI.out hz0 hz1 hz2 rfl gO2 hT2l gT2 (by first | omega | (simp; done) | (simp; omega) | (simp [maxLen]; done) | (simp [maxLen]; omega)) (by first | omega | (simp; done) | (simp; omega) | (simp [maxLen]; done) | (simp [maxLen]; omega)) gN2) ?_
               rintro v3 w3 ⟨gO3, gG3, gB3⟩
               have gBel3 : Below w.heap.size w w3 := Below.grown gBel2 gG3 gN2 (fun k hk => (gO2.blk hk).1)))
          all_goals
            rw [List.nil_append, List.append_assoc] at gO3
            have hne : ∃ g cap, v3 = .slice (some ⟨g, 0, none⟩) (T1 ++ ([n] ++ T2)).length cap := by
              obtain ⟨A9, c9, e9, hS9⟩ := gO3.sl
              obtain ⟨b9, o9, h9, _⟩ := hS9.cells (by simp)
              subst h9
              obtain ⟨⟨_, h1⟩, _⟩ := gO3
              rcases h1 with ⟨e, _⟩ | ⟨g, cap, cur, e, _⟩
              · rw [e] at e9; cases e9
              · exact ⟨g, cap, e⟩
            obtain ⟨g9, c9, rfl⟩ := hne
            obtain ⟨A8, c8, e8, hS8⟩ := gO3.sl
            simp only [Value.slice.injEq] at e8
            obtain ⟨rfl, _, rfl⟩ := e8
            have hres : putI l n = T1 ++ ([n] ++ T2) := by rw [HE.out]; rfl
            have HS8 := hide hS8
            have HB8 := hide gBel3
            clear gO gG gB gO2 gG2 gB2 gO3 gG3 gB3 gT2 gBel gBel2 hS8
            have Hres := hide hres
            clear hres HT1 HT2 hT1l hT2l HE
            generalize T1 ++ ([n] ++ T2) = TT at *
            go_wp2
            all_goals
              go_ret
              exact ⟨g9, 0, c9, by rw [Hres.out]; rfl, by rw [Hres.out]; exact HS8.out, HB8.out⟩
    · have hkl : l.length = k := by omega
      have hp := HP.out k hq (fun y hy => by rw [List.getElem?_eq_none (by omega)] at hy; cases hy)
      rw [if_neg (by rw [List.getElem?_eq_none (by omega)]; simp)] at hp
      have HE := hide (E.out.trans hp)
      have HT1 := hide (sl_take hS k)
      have HT2 := hide (show Sl ic 1 w (if c = k then some ⟨b, o, none⟩ else some ⟨b, o + k, none⟩) (c - k) (l.drop k) by
        rw [List.drop_of_length_le (by omega)]; exact Sl.nil (by omega))
      have hT1l : (l.take k).length = k := by simp; omega
      have hT2l : (l.drop k).length = 0 := by simp; omega
      clear hS hs hp E HP hq
      generalize l.take k = T1 at *
      generalize l.drop k = T2 at *
      generalize l.length = ll at *
      have hkl2 : ll ≤ k := by omega
      clear hkl
      have i0' : (0 : Int) ≤ k := by omega
      have i1' : (k : Int) ≤ ll := by omega
      have i2' : (ll : Int) ≤ c := by omega
      have i3' : (k : Int) ≤ c := by omega
      go_wp2_with fail
      go_region_law (first
        | (refine step_append (v := .slice (some ⟨_, 0, none⟩) 0 0) (u := .slice (some ⟨b, o, none⟩) k c) rfl (.tmp 33) (.tmp 36) 33 rfl rfl rfl (run_ext_n (base := w.heap.size) (l1 := []) (l2 := T1) Try.underlying33 HI.out hz0 hz1 hz2 rfl (by first | exact (OwnL.fresh' (by simp) (by omega)).drew | exact ((OwnL.fresh' (by simp) (by omega)).alloc _).drew) hT1l (by first | exact (HT1.out.alloc _).drew | exact ((HT1.out.alloc _).alloc _).drew) (by first | omega | (simp; done) | (simp; omega) | (simp [maxLen]; done) | (simp [maxLen]; omega)) (by first | omega | (simp; done) | (simp; omega) | (simp [maxLen]; done) | (simp [maxLen]; omega)) (by first | omega | (simp; done) | (simp; omega) | (simp [maxLen]; done) | (simp [maxLen]; omega))) ?_
           rintro v' w' ⟨gO, gG, gB⟩
           have gBel : Below w.heap.size w w' := Below.grown (by first | exact (kalloc (Below.refl _ _) _).drew | exact (kalloc (kalloc (Below.refl _ _) _) _).drew) gG (by first | omega | (simp; done) | (simp; omega) | (simp [maxLen]; done) | (simp [maxLen]; omega)) (fun k hk => by simp [Value.ownBlock] at hk; omega)
           have gN : w.heap.size ≤ w'.heap.size := gBel.size
           try (have xB := Blk.grown (b := w.heap.size + 1) (cs := #[.int .i64 n]) (ty := 3) (Blk.drew (Blk.new' (by simp))) gG (by simp [Value.ownBlock]))
           try (have xB := Blk.grown (b := w.heap.size) (cs := #[.int .i64 n]) (ty := 3) (Blk.drew (Blk.alloc (Blk.new' (by simp)) _)) gG (by simp [Value.ownBlock])))
        | (refine step_append (v := v') (u := .slice (some ⟨_, 0, none⟩) 1 1) rfl (.tmp 37) (.tmp 39) 33 rfl rfl rfl (run_ext_n (base := w.heap.size) (l1 := [] ++ T1) (l2 := [n]) Try.underlying33 HI.out hz0 hz1 hz2 rfl (by first | exact gO | exact gO.alloc _) rfl (by first | exact Sl.one xB rfl rfl (by decide) (by decide) | exact Sl.one (Blk.new' rfl) rfl rfl (by decide) (by decide)) (by first | omega | (simp; done) | (simp; omega) | (simp [maxLen]; done) | (simp [maxLen]; omega)) (by first | omega | (simp; done) | (simp; omega) | (simp [maxLen]; done) | (simp [maxLen]; omega)) (by first | exact gN | exact Nat.le_trans gN (by simp))) ?_
           rintro v2 w2 ⟨gO2, gG2, gB2⟩
           have gBel2 : Below w.heap.size w w2 := Below.grown (by first | exact gBel | exact gBel.alloc gN _) gG2 (by first | exact gN | exact Nat.le_trans gN (by simp)) (fun k hk => (gO.blk hk).1)
           have gN2 := gBel2.size
           have gT2 := HT2.out.bel gBel2)
        | (refine step_append (v := v2) (u := .slice (if c = k then some ⟨b, o, none⟩ else some ⟨b, o + k, none⟩) 0 (c - k)) rfl (.tmp 40) (.tmp 43) 33 rfl rfl rfl (run_ext_n (base := w.heap.size) (l1 := [] ++ T1 ++ [n]) (l2 := T2) Try.underlying33 HI.out hz0 hz1 hz2 rfl gO2 hT2l gT2 (by first | omega | (simp; done) | (simp; omega) | (simp [maxLen]; done) | (simp [maxLen]; omega)) (by first | omega | (simp; done) | (simp; omega) | (simp [maxLen]; done) | (simp [maxLen]; omega)) gN2) ?_
           rintro v3 w3 ⟨gO3, gG3, gB3⟩
           have gBel3 : Below w.heap.size w w3 := Below.grown gBel2 gG3 gN2 (fun k hk => (gO2.blk hk).1)))
      all_goals
        rw [List.nil_append, List.append_assoc] at gO3
        have hne : ∃ g cap, v3 = .slice (some ⟨g, 0, none⟩) (T1 ++ ([n] ++ T2)).length cap := by
          obtain ⟨A9, c9, e9, hS9⟩ := gO3.sl
          obtain ⟨b9, o9, h9, _⟩ := hS9.cells (by simp)
          subst h9
          obtain ⟨⟨_, h1⟩, _⟩ := gO3
          rcases h1 with ⟨e, _⟩ | ⟨g, cap, cur, e, _⟩
          · rw [e] at e9; cases e9
          · exact ⟨g, cap, e⟩
        obtain ⟨g9, c9, rfl⟩ := hne
        obtain ⟨A8, c8, e8, hS8⟩ := gO3.sl
        simp only [Value.slice.injEq] at e8
        obtain ⟨rfl, _, rfl⟩ := e8
        have hres : putI l n = T1 ++ ([n] ++ T2) := by rw [HE.out]; rfl
        have HS8 := hide hS8
        have HB8 := hide gBel3
        clear gO gG gB gO2 gG2 gB2 gO3 gG3 gB3 gT2 gBel gBel2 hS8
        have Hres := hide hres
        clear hres HT1 HT2 hT1l hT2l HE
        generalize T1 ++ ([n] ++ T2) = TT at *
        go_wp2
        all_goals
          go_ret
          exact ⟨g9, 0, c9, by rw [Hres.out]; rfl, by rw [Hres.out]; exact HS8.out, HB8.out⟩
end Go.Proofs.Ytchdoamoeccjkaa
namespace Go.Proofs.Ytchdoamoeccjkaa
open Go.RowKit Go.Shelf Go.Mine Go.Mine.V
attribute [local go_sem] Oper.semAt_some

theorem putI_length : ∀ (l : List Int) (n : Int), (putI l n).length ≤ l.length + 1
  | [], _ => by simp [putI]
  | y :: l, n => by
    unfold putI
    have := putI_length l n
    split
    · simp; omega
    · split <;> simp
set_option maxRecDepth 100000 in
set_option maxHeartbeats 8000000 in
theorem Present23_good (A : Option Addr) (c : Nat) (l : List Vi) (lang t : Int) (w : World) (hS : Sl viC 4 w A c l) (hz : chk l = 0) (h1 : inB lang 32 = true) (h2 : inB t 1099511627776 = true) :
    Calls Try.prog 23 #[.slice A l.length c, .int .i64 lang, .int .i64 t] w fun e w' => ∃ A' c', e = .returned (.tuple #[.slice A' (pres l lang t).length c', .int .i64 0]) ∧ Sl ic 1 w' A' c' (pres l lang t) ∧ Below w.heap.size w w' := by
  obtain ⟨hgo, hll⟩ := chk_go hz
  have K19 := hide (fun w (hS : Sl viC 4 w A c l) => by have := Check19_any A c l w hS; rw [hz] at this; exact this)
  have KS := hide (fun who w (hS : Sl viC 4 w A c l) => by have := sees50_any A c l who t w hS; rw [vEarly_ref hgo t who, seesR_toR] at this; exact this)
  have hsee := hide (fun who => (show seeAt l who lang t = sight lang (upTo nobody t l who) from rfl).trans (seesS_sight _ _))
  have hpr : pres l lang t = presGo (fun w => seeAt l w lang t) [] l := rfl
  obtain ⟨R, hR⟩ : ∃ R, pres l lang t = R := ⟨_, rfl⟩
  rw [hR]
  have HR := hide (hR.symm.trans hpr)
  have hlc := hS.le
  have hc := hS.max
  have HSw := hide hS
  clear hz hgo hR hpr hS
  go_enter Try.func23, Try.ntmps23
  go_wp2_with fail
  refine (K19.out w HSw.out).mono ?_
  rintro e w1 ⟨rfl, hb1⟩
  clear K19
  go_wp2_with (first | (go_at_call 49; with_reducible refine (within49_is h1 _).mono ?_; rintro e w' ⟨rfl, rfl⟩) | (go_at_call 49; with_reducible refine (within49_is h2 _).mono ?_; rintro e w' ⟨rfl, rfl⟩))
  have hB0 := kalloc hb1 (.cells #[] 3)
  generalize w1.alloc (.cells #[] 3) = w2 at *
  clear hb1
  go_loopw [9, 10] (fun v i wr => ∃ (k : Nat) (out : List Int) (b o cp : Nat), k ≤ l.length ∧ i = .int .i64 k ∧ v = .slice (some ⟨b, o, none⟩) out.length cp ∧ R = presGo (fun w => seeAt l w lang t) out (l.drop k) ∧ out.length ≤ k ∧ out.Pairwise (· < ·) ∧ Sl ic 1 wr (some ⟨b, o, none⟩) cp out ∧ Below w.heap.size w wr) (fun _ i _ => l.length - (nI i).toNat)
  case atStart => exact ⟨0, [], _, _, _, Nat.zero_le _, rfl, rfl, HR.out, Nat.le_refl _, List.Pairwise.nil, Sl.nil (by decide), hB0⟩
  case round =>
    obtain ⟨k, out, b, o, cp, hk, rfl, rfl, hq, hol, hso, hO, hB⟩ := hrel
    have hS := HSw.out.bel hB
    clear hB0 HR
    by_cases hlt : k < l.length
    · obtain ⟨x, bb, off, hx, hdr, rfl, hbw, c0, c1, c2, c3⟩ := Sl.vi_at hS hlt
      rw [hdr] at hq
      have KX := hide (KS.out x.who wr hS)
      have hf := hsee.out x.who
      have hq := hq.trans (show presGo (fun w => seeAt l w lang t) out (x :: l.drop (k + 1)) = presGo (fun w => seeAt l w lang t) (if seeAt l x.who lang t = true then putI out x.who else out) (l.drop (k + 1)) from rfl)
      rw [hf] at hq
      have KP := hide (put56_any b o cp out x.who wr hO hso (by omega))
      generalize seesS (upTo nobody t l x.who) = sv at *
      obtain ⟨n9, ok9⟩ := sv
      obtain ⟨xt, xw, xk, xg⟩ := x
      simp only at *
      have HQ := hide hq
      have HO := hide hO
      have HB := hide hB
      have HSo := hide hso
      have hpl := putI_length out xw
      clear hS hq hO hB hx hdr KS hsee c0 c2 c3 hf hso
      by_cases hon : ok9 = true ∧ n9 = lang
      · obtain ⟨rfl, rfl⟩ := hon
        have E1 := hide (HQ.out.trans (by rw [if_pos (by simp)]))
        clear HQ
        go_wp2_with (refine KX.out.mono ?_; rintro e w' ⟨rfl, rfl⟩)
        refine KP.out.mono ?_
        rintro e w9 ⟨b', o', c', rfl, hO9, hb9⟩
        have FIN := hide (And.intro hO9 (kcall HB.out hb9))
        clear hO9 hb9
        go_wp2
        go_roundw
        case rel => exact ⟨k + 1, putI out xw, b', o', c', by omega, by go_num, rfl, E1.out, by omega, putI_sorted _ _ HSo.out, FIN.out.1, FIN.out.2⟩
        case measure => simp [nI]; omega
      · have hoff : (ok9 && decide (n9 = lang)) = false := by
          cases ok9
          · rfl
          · have : n9 ≠ lang := fun e => hon ⟨rfl, e⟩
            simp [this]
        have E1 := hide (HQ.out.trans (by rw [hoff, if_neg (by simp)]))
        cases ok9
        · clear hon hoff HQ
          go_wp2_with (refine KX.out.mono ?_; rintro e w' ⟨rfl, rfl⟩)
          go_roundw
          case rel => exact ⟨k + 1, out, b, o, cp, by omega, by go_num, rfl, E1.out, by omega, HSo.out, HO.out, HB.out⟩
          case measure => simp [nI]; omega
        · have gl : (n9 == lang) = false := by
            have : n9 ≠ lang := fun e => hon ⟨rfl, e⟩
            simp [this]
          clear hon hoff HQ
          go_wp2_with (refine KX.out.mono ?_; rintro e w' ⟨rfl, rfl⟩)
          go_roundw
          case rel => exact ⟨k + 1, out, b, o, cp, by omega, by go_num, rfl, E1.out, by omega, HSo.out, HO.out, HB.out⟩
          case measure => simp [nI]; omega
    · rw [List.drop_of_length_le (by omega), show presGo (fun w => seeAt l w lang t) out [] = out from rfl] at hq
      subst hq
      have HO := hide hO
      have HB := hide hB
      clear hO hB hS
      go_wp2
      exact bodyPost_ret (v := .tuple #[.slice (some ⟨b, o, none⟩) R.length cp, .int .i64 0]) (by simp [results, Try.results23, go_sem]) rfl ⟨_, _, rfl, HO.out, HB.out⟩
end Go.Proofs.Ytchdoamoeccjkaa

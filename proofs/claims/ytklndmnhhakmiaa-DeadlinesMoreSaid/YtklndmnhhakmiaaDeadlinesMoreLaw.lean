/-
  DeadlinesMore, walked.
-/
import Derived.Test.YtklndmnhhakmiaaDLaw3
namespace Go.Proofs.Ytklndmnhhakmiaa
open Go.RowKit Go.Mine Go.Mine.B
attribute [local go_sem] Oper.semAt_some
set_option maxRecDepth 100000 in
set_option maxHeartbeats 8000000 in
theorem deadlinesMore_law (A : Option Addr) (c : Nat) (b : List Bu) (B : Option Addr) (d : Nat) (l : List Tr) (x : Tr) (u k : Int) (w : World) (hS : Sl buC 5 w A c b) (hT : Sl trC 7 w B d l) (hI : ∀ x ∈ b, BuS x) (hJ : ∀ x ∈ l, TrS x) (hx : TrS x) (hreach : l.length * 56 ≤ 140737488351232) :
    Calls Try.prog 11 #[.slice A b.length c, .slice B l.length d, trV x, .int .i64 u, .int .i64 k] w fun e w' => e = .returned (.bool true) ∧ Below w.heap.size w w' := by
  have hJm : ∀ y ∈ l ++ [x], TrS y := fun y hy => by
    rcases List.mem_append.1 hy with hy | hy
    · exact hJ y hy
    · simp at hy; subst hy; exact hx
  have KS := hide sane25
  have KF := hide (fun W A' c' (h : Below w.heap.size w W) (hm : Sl trC 7 W A' c' (l ++ [x])) => few30 A A' c c' b (l ++ [x]) W (hS.bel h) hm)
  have KT := hide (times31_two u k)
  have hlm : (l ++ [x]).length = l.length + 1 := by simp
  rw [hlm] at KF
  have HLM := hide hlm
  have HI1 := hide (BuS.all hI)
  have HJ1 := hide (TrS.all hJ)
  have HJM := hide (TrS.all hJm)
  have HS := hide hS
  have HT := hide hT
  have hlc := hT.le
  have hcm := hT.max
  have hlb := hS.le
  have hmb := hS.max
  obtain ⟨i0, hi, hz0, hz1, hz2⟩ := info_parts Try_info40
  have HI := hide hi
  have hx1 : [x].length = 1 := rfl
  have B0 := kalloc (Below.refl w.heap.size w) (.cells #[.int .i64 x.no, .int .i64 x.at_, .int .i64 x.known, .int .i64 x.stg, .int .i64 x.fr, .int .i64 x.to, .int .i64 x.ms] 40)
  have b0 := Blk.new w #[.int .i64 x.no, .int .i64 x.at_, .int .i64 x.known, .int .i64 x.stg, .int .i64 x.fr, .int .i64 x.to, .int .i64 x.ms] 40
  have s0 := hT.alloc (.cells #[.int .i64 x.no, .int .i64 x.at_, .int .i64 x.known, .int .i64 x.stg, .int .i64 x.fr, .int .i64 x.to, .int .i64 x.ms] 40)
  simp only [trV, trC]
  clear hi hJm hI hJ hx hS hx1 hlm hT
  go_enter Try.func11, Try.ntmps11
  go_wp2_with fail
  generalize w.alloc (.cells #[.int .i64 x.no, .int .i64 x.at_, .int .i64 x.known, .int .i64 x.stg, .int .i64 x.fr, .int .i64 x.to, .int .i64 x.ms] 40) = w0 at *
  refine (KS.out _).mono ?_
  rintro e w1 ⟨rfl, hb⟩
  have B1 := kcall B0 hb
  have b1 := b0.bel hb
  have s1 := s0.bel hb
  have y0 := b1.cell (v := .int .i64 x.no) 0 rfl
  have y1 := b1.cell (v := .int .i64 x.at_) 1 rfl
  have y2 := b1.cell (v := .int .i64 x.known) 2 rfl
  have y3 := b1.cell (v := .int .i64 x.stg) 3 rfl
  have y4 := b1.cell (v := .int .i64 x.fr) 4 rfl
  have y5 := b1.cell (v := .int .i64 x.to) 5 rfl
  have y6 := b1.cell (v := .int .i64 x.ms) 6 rfl
  have hlt1 := b1.lt
  clear hb B0 b0 s0 KS
  go_wp2_with fail
  have S4 := hide s1
  refine Go.Mine.wp_cut (fun a a' w' => a' = (((((((a.put (some 29) (a'.tmps.getD 29 undef)).put (some 30) (a'.tmps.getD 30 undef)).put (some 31) (a'.tmps.getD 31 undef)).put (some 32) (a'.tmps.getD 32 undef)).put (some 33) (a'.tmps.getD 33 undef)).put (some 34) (a'.tmps.getD 34 undef)).put (some 11) (a'.tmps.getD 11 undef)) ∧ ∃ A' c', a'.tmps.getD 34 undef = .slice A' (l ++ [x]).length c' ∧ a'.tmps.getD 11 undef = .slice A' (l ++ [x]).length c' ∧ Sl trC 7 w' A' c' (l ++ [x]) ∧ Below w1.heap.size w1 w') ?_ ?_
  · have hgB : ∀ {W W' : World} {row : Option Nat}, W.grownBy W' row → W.heap.size ≤ W'.heap.size := fun h => h.size
    go_region_law (first
      | (refine step_append (v := .slice (some ⟨_, 0, none⟩) 0 0) rfl (.tmp 29) (.tmp 30) 23 rfl rfl rfl (run_extend (f := trC) (base := w1.heap.size) (l1 := []) (l2 := l) Try.underlying23 HI.out hz0 hz1 hz2 rfl (by decide) (by first | exact (OwnL.fresh' (by simp) (by omega)).drew | exact ((OwnL.fresh' (by simp) (by omega)).alloc _).drew) (by first | exact (S4.out.alloc _).drew | exact ((S4.out.alloc _).alloc _).drew) (fun x _ => tr_one x) (by simp [maxLen]; omega) (by simp; omega) (by simp <;> omega)) ?_
         rintro v' w' ⟨gO, gG, gB⟩
         have y0' := gcell (b := w.heap.size) (o := 0) (v := .int .i64 x.no) gG (by simp; omega) (by simp [Value.ownBlock]; omega) (by simp [go_sem, y0, hlt1])
         have y1' := gcell (b := w.heap.size) (o := 1) (v := .int .i64 x.at_) gG (by simp; omega) (by simp [Value.ownBlock]; omega) (by simp [go_sem, y1, hlt1])
         have y2' := gcell (b := w.heap.size) (o := 2) (v := .int .i64 x.known) gG (by simp; omega) (by simp [Value.ownBlock]; omega) (by simp [go_sem, y2, hlt1])
         have y3' := gcell (b := w.heap.size) (o := 3) (v := .int .i64 x.stg) gG (by simp; omega) (by simp [Value.ownBlock]; omega) (by simp [go_sem, y3, hlt1])
         have y4' := gcell (b := w.heap.size) (o := 4) (v := .int .i64 x.fr) gG (by simp; omega) (by simp [Value.ownBlock]; omega) (by simp [go_sem, y4, hlt1])
         have y5' := gcell (b := w.heap.size) (o := 5) (v := .int .i64 x.to) gG (by simp; omega) (by simp [Value.ownBlock]; omega) (by simp [go_sem, y5, hlt1])
         have y6' := gcell (b := w.heap.size) (o := 6) (v := .int .i64 x.ms) gG (by simp; omega) (by simp [Value.ownBlock]; omega) (by simp [go_sem, y6, hlt1])
         have gN : w1.heap.size ≤ w'.heap.size := Nat.le_trans (by simp <;> omega) (hgB gG)
         have gBel : Below w1.heap.size w1 w' := Below.grown (by first | exact ((Below.refl _ _).alloc (Nat.le_refl _) _).drew | exact (((Below.refl _ _).alloc (Nat.le_refl _) _).alloc (by simp) _).drew) gG (by simp <;> omega) (fun k hk => by simp [Value.ownBlock] at hk; omega)
         try (have xB := Blk.grown (b := w1.heap.size + 1) (cs := #[.int .i64 x.no, .int .i64 x.at_, .int .i64 x.known, .int .i64 x.stg, .int .i64 x.fr, .int .i64 x.to, .int .i64 x.ms]) (ty := 40) (Blk.drew (Blk.new' (by simp))) gG (by simp [Value.ownBlock]))
         try (have xB := Blk.grown (b := w1.heap.size) (cs := #[.int .i64 x.no, .int .i64 x.at_, .int .i64 x.known, .int .i64 x.stg, .int .i64 x.fr, .int .i64 x.to, .int .i64 x.ms]) (ty := 40) (Blk.drew (Blk.alloc (Blk.new' (by simp)) _)) gG (by simp [Value.ownBlock])))
      | (refine step_append (v := v') (u := .slice (some ⟨_, 0, none⟩) 1 1) rfl (.tmp 31) (.tmp 33) 23 rfl rfl rfl (run_extend (f := trC) (base := w1.heap.size) (l1 := [] ++ l) (l2 := [x]) Try.underlying23 HI.out hz0 hz1 hz2 rfl (by decide) (by first | exact gO | exact gO.alloc _) (by first | exact Sl.one xB rfl rfl (by decide) (by decide) | exact Sl.one (Blk.new' rfl) rfl rfl (by decide) (by decide)) (fun x _ => tr_one x) (by simp [maxLen]; omega) (by simp; omega) (by first | exact gN | exact Nat.le_trans gN (by simp) | omega)) ?_
         rintro v'' w'' ⟨gO2, gG2, gB2⟩
         have gBel2 : Below w1.heap.size w1 w'' := Below.grown (by first | exact gBel | exact gBel.alloc gN _) gG2 (by first | exact gN | exact Nat.le_trans gN (by simp)) (fun k hk => (gO.blk hk).1)))
    all_goals
      obtain ⟨A', c', rfl, hs'⟩ := gO2.sl
      exact ⟨by kernel_rfl, A', c', by kernel_rfl, by kernel_rfl, hs', gBel2⟩
  · rintro a' w5 ⟨ha, A', c', h27, h7, sM, hb⟩
    rw [h27, h7, HLM.out] at ha
    clear h27 h7
    generalize a'.tmps.getD 29 undef = v22 at ha
    generalize a'.tmps.getD 30 undef = v23 at ha
    generalize a'.tmps.getD 31 undef = v24 at ha
    generalize a'.tmps.getD 32 undef = v25 at ha
    generalize a'.tmps.getD 33 undef = v26 at ha
    subst ha
    have HB5 := hide (kcall B1 hb)
    have HX5 := hide (b1.bel hb)
    have HM := hide sM
    clear hb B1 b1 s1 y0 y1 y2 y3 y4 y5 y6 hlt1 S4 HI hz0 hz1 hz2 sM
    rename_i K9 h9
    refine h9 _ _ ?_
    clear h9
    go_wp2_with fail
    refine (KF.out _ _ _ HB5.out HM.out).mono ?_
    rintro e w6 ⟨rfl, hb⟩
    have HB6 := hide (kcall HB5.out hb)
    have hx6 := HX5.out.bel hb
    have HX6 := hide hx6
    have HM6 := hide (HM.out.bel hb)
    clear hb HB5 HX5 HM KF
    have hxl := hx6.lt
    have y1 := hx6.cell (v := .int .i64 x.at_) 1 rfl
    have y2 := hx6.cell (v := .int .i64 x.known) 2 rfl
    clear hx6
    rcases Bool.eq_false_or_eq_true (fewD b (l ++ [x]) && (timeB u && timeB k) && (!decide (u < x.at_) && !decide (k < x.known))) with hr | hr
    · simp only [Bool.and_eq_true, Bool.not_eq_true'] at hr
      obtain ⟨⟨hr, hu, hk⟩, g1, g2⟩ := hr
      rw [hr]
      rw [hu, hk] at KT
      obtain ⟨hbl, hl40, hzm, hcm2⟩ := fewD_parts hr
      rw [HLM.out] at hl40
      obtain ⟨hst, hm1, hm2, hne, hcb⟩ := more_parts hcm2
      have hz := chk_sub hzm (List.sublist_append_left l [x])
      have ha := argA_of hu hk
      have K20 := hide (fun W (h : Below w.heap.size w W) => standing20 A c b B d l u k W (HS.out.bel h) (HT.out.bel h) HI1.out HJ1.out)
      rw [(stand_ok hz ha).1, (stand_ok hz ha).2] at K20
      have KD1 := hide (fun (y : Bu) (hy : y ∈ b) W (h : Below w.heap.size w W) => due26_at hz HI1.out HJ1.out hy hu hk (HS.out.bel h) (HT.out.bel h))
      have KD2 := hide (fun (y : Bu) (hy : y ∈ b) W (h : Below w.heap.size w W) (hm : Sl trC 7 W A' c' (l ++ [x])) => due26_at hzm HI1.out HJM.out hy hu hk (HS.out.bel h) hm)
      rw [HLM.out] at KD2
      have HMP := hide (fun (hl : ∀ y ∈ l, y.at_ ≤ x.at_) (n : Int) (s : Nat) (hs : s < 4) => more_path hcm2 (of_decide_eq_false g1 |> Int.not_lt.1) (of_decide_eq_false g2 |> Int.not_lt.1) hl n hs)
      have HAT := hide (fun i (y : Bu) (hy : b[i]? = some y) => stand_at hcb u k hy)
      have HATm := hide (fun i (y : Bu) (hy : b[i]? = some y) => stand_at hcm2 u k hy)
      have HQG := hide (fun q (s : Nat) (hs : s < 4) => qg_tq q u (s := ((s : Nat) : Int)) ⟨by omega, by omega⟩)
      have HTQ := hide (fun q (hq : okQ q) => okT_tq hq hu)
      have HLl := hide (standing_len b l u k)
      have HBY := hide (byV_in (L := standing b l u k) (x := x) ⟨hm1, hm2⟩)
      have HOK := hide (okP_fin hcb u k)
      have HLok : Hid (∀ y ∈ standing b l u k, okQ y.q) := hide (fun y hy => by
        obtain ⟨i, hi⟩ := List.getElem?_of_mem hy
        have hlt : i < b.length := by
          have := (List.getElem?_eq_some_iff.1 hi).1
          rw [standing_len] at this; exact this
        obtain ⟨h1, h2, _⟩ := stand_at hcb u k (List.getElem?_eq_getElem hlt)
        rw [hi] at h1
        rw [Option.some.inj h1]; exact h2)
      obtain ⟨sn, hsn⟩ := Int.eq_ofNat_of_zero_le hst.1
      have hsn4 : sn < 4 := by have := hst.2; omega
      have hsn4z : (sn : Int) < 4 := by omega
      have HNE := hide hne
      have hms : 1 ≤ x.ms ∧ x.ms ≤ 1073741824 := ⟨hm1, hm2⟩
      generalize standing b l u k = L at *
      have gl : ((L.length : Int) != (b.length : Int)) = false := by simp [HLl.out]
      have HSN := hide hsn
      have HMS := hide hms
      clear hr hzm hcm2 hst hcb hz ha hne hms hm1 hm2 HOK hsn
      go_wp2_with fail
      with_reducible refine (KT.out _ _ rfl).mono ?_
      rintro e w' ⟨rfl, rfl⟩
      have HB0 := hide (kalloc (Below.refl w6.heap.size w6) (.cells #[.int .i64 u, .int .i64 k] 3))
      clear KT hu hk
      go_wp2
      clear y1 y2 g1 g2
      go_loopw [13, 60] (fun _ i wr => ∃ j : Nat, j ≤ l.length ∧ i = .int .i64 j ∧ Hid (∀ i' y, i' < j → l[i']? = some y → y.at_ ≤ x.at_) ∧ Hid (Below w6.heap.size w6 wr)) (fun _ i _ => l.length - (nI i).toNat)
      case atStart => exact ⟨0, Nat.zero_le _, rfl, fun _ _ h => absurd h (Nat.not_lt_zero _), HB0⟩
      case round =>
        clear HB0
        obtain ⟨j, hj, rfl, HLE, HB⟩ := hrel
        have hx6 := HX6.out.bel HB.out
        have hxl := hx6.lt
        by_cases hlt : j < l.length
        · obtain ⟨y, g, off, hy, _, rfl, hgw, t0, t1, t2, t3, t4, t5, t6⟩ := Sl.tr_at (HT.out.bel (kcall HB6.out HB.out)) hlt
          have jz : (j : Int) < (l.length : Int) := by omega
          have y1 := hx6.cell (v := .int .i64 x.at_) 1 rfl
          clear hx6
          rcases Bool.eq_false_or_eq_true (decide (x.at_ < y.at_)) with g1 | g1
          · go_wp2
            go_ret
            exact ⟨rfl, kalloc (kcall HB6.out HB.out) _⟩
          · have HL2 : Hid (∀ i' y, i' < j + 1 → l[i']? = some y → y.at_ ≤ x.at_) := hide (fun i' z hi hz => by
              rcases Nat.lt_or_ge i' j with h | h
              · exact HLE.out i' z h hz
              · obtain rfl : i' = j := by omega
                rw [hy] at hz; cases hz
                exact Int.not_lt.1 (of_decide_eq_false g1))
            clear HLE hy
            go_wp2
            go_roundw
            case rel => exact ⟨j + 1, by omega, by go_num, HL2, kalloc HB.out _⟩
            case measure => simp [nI]; omega
        · obtain rfl : j = l.length := by omega
          have HMP2 := hide (HMP.out (fun y hy => by obtain ⟨i, hi⟩ := List.getElem?_of_mem hy; exact HLE.out i y (List.getElem?_eq_some_iff.1 hi).1 hi))
          have HBw := hide (kcall HB6.out HB.out)
          have HX7 := hide hx6
          have HM7 := hide (HM6.out.bel HB.out)
          clear HMP HLE hx6 HX6 HM6 HB6 HB hxl hj
          go_wp2_with fail
          refine (K20.out _ HBw.out).mono ?_
          rintro e w8 ⟨A9, c9, rfl, h9, hb⟩
          have HB8 := hide (kcall HBw.out hb)
          have HX8 := hide (HX7.out.bel hb)
          have HM8 := hide (HM7.out.bel hb)
          have H9 := hide h9
          have h9l := h9.le
          have h9m := h9.max
          have hx8 := HX8.out
          have hxl := hx8.lt
          have y3 := hx8.cell (v := .int .i64 (sn : Int)) 3 (by rw [← HSN.out]; rfl)
          have y6 := hx8.cell (v := .int .i64 x.ms) 6 rfl
          have gs1 : decide ((sn : Int) < 0) = false := decide_eq_false (by omega)
          have gs2 : decide (3 < (sn : Int)) = false := decide_eq_false (by omega)
          clear hb h9 K20 HBw HX7 HM7 hx8
          go_wp2
          clear y3 y6
          go_loopw [16, 18, 101] (fun v16 _ i wr => ∃ j : Nat, j ≤ L.length ∧ i = .int .i64 j ∧ v16 = .int .i64 (byV (L.take j) x) ∧ Hid (Below w8.heap.size w8 wr)) (fun _ _ i _ => L.length - (nI i).toNat)
          case atStart => exact ⟨0, Nat.zero_le _, rfl, by simp [byV], Below.refl _ _⟩
          case round =>
            obtain ⟨j, hj, rfl, rfl, HB⟩ := hrel
            by_cases hlt : j < L.length
            · obtain ⟨y, g, off, hy, _, rfl, hgw, t0, t1, t2, t3, t4⟩ := Sl.bu_at (H9.out.bel HB.out) hlt
              have HNX := hide (byV_next (x := x) hy)
              have hyq := HLok.out y (List.mem_of_getElem? hy)
              have HC := hide (buC_get' y sn hsn4)
              have jz : (j : Int) < (L.length : Int) := by omega
              have HY := hide (Blk.new wr #[.int .i64 y.lang, .int .i64 y.q.1, .int .i64 y.q.2.1, .int .i64 y.q.2.2.1, .int .i64 y.q.2.2.2] 26)
              have HB1 := hide (kalloc HB.out (.cells #[.int .i64 y.lang, .int .i64 y.q.1, .int .i64 y.q.2.1, .int .i64 y.q.2.2.1, .int .i64 y.q.2.2.2] 26))
              have hq := okQ_get hyq (sn : Int)
              unfold most at hq
              have hbad : badM x y = ((y.lang == x.fr && decide (qg y.q (sn : Int) < x.ms)) || (y.lang == x.to && decide (1073741824 < qg y.q (sn : Int) + x.ms))) := by
                unfold badM; rw [HSN.out]; rfl
              rw [hbad] at HNX
              have hw : IntKind.i64.wrap (qg y.q (sn : Int) + x.ms) = qg y.q (sn : Int) + x.ms := by have := HMS.out; rw [IntKind.wrap_i64]; omega
              have hff : (y.lang == x.fr) = true → (y.lang == x.to) = false := fun h => by
                have := HNE.out; simp only [beq_iff_eq] at h; simp only [beq_eq_false_iff_ne]; omega
              generalize byV (L.take j) x = by0 at *
              have HW := hide hw
              clear hy hyq hq hbad HB hw
              go_wp2_with fail
              refine at_world (fun W => Blk W wr.heap.size 26 #[.int .i64 y.lang, .int .i64 y.q.1, .int .i64 y.q.2.1, .int .i64 y.q.2.2.1, .int .i64 y.q.2.2.2] ∧ Below w8.heap.size w8 W) ⟨HY.out, HB1.out⟩ ?_
              clear HY HB1 t0 t1 t2 t3 t4 hgw
              rintro W ⟨hy1, hB1⟩
              have c0 := hy1.cell (v := .int .i64 y.lang) 0 rfl
              have c1 := hy1.cell (v := .int .i64 (qg y.q (sn : Int))) (1 + sn) (show (buC y).toArray[1 + sn]? = _ by rw [List.getElem?_toArray]; exact HC.out)
              have hyl := hy1.lt
              have hx8 := HX8.out.bel hB1
              have hxl := hx8.lt
              have y3 := hx8.cell (v := .int .i64 (sn : Int)) 3 (by rw [← HSN.out]; rfl)
              have y4 := hx8.cell (v := .int .i64 x.fr) 4 rfl
              have y5 := hx8.cell (v := .int .i64 x.to) 5 rfl
              have y6 := hx8.cell (v := .int .i64 x.ms) 6 rfl
              have hw := HW.out
              have HBd := hide hB1.drew
              clear hx8 hy1 hB1 HC
              generalize qg y.q (sn : Int) = qv at *
              rcases Bool.eq_false_or_eq_true (y.lang == x.fr) with e1 | e1
              · have e3 := hff e1
                have gft : (x.fr == x.to) = false := beq_eq_false_iff_ne.2 HNE.out
                rw [e1, e3] at HNX
                rcases Bool.eq_false_or_eq_true (decide (qv < x.ms)) with e2 | e2
                all_goals
                  rw [e2] at HNX
                  simp only [Bool.true_and, Bool.false_and, Bool.or_false, Bool.or_true, if_true, Bool.false_eq_true, if_false] at HNX
                  clear hff
                  go_wp2_with fail
                  refine wp_still_all (by kernel_rfl) (by kernel_rfl) ?_
                  repeat (first | ((with_reducible refine wpStill_step (fun K hK => ?_)); go_simp; (try go_bits); (with_reducible refine hK _ ?_); clear hK K) | ((with_reducible refine wpStill_step (fun K hK => ?_)); go_simp; rw [if_neg (by simp [undef])]; (with_reducible refine hK _ ?_); clear hK K))
                  (with_reducible refine wpStill_nil ?_)
                  go_wp2
                  go_roundw
                  case rel => exact ⟨j + 1, by omega, by go_num, by rw [HNX.out], HBd.out⟩
                  case measure => simp [nI]; omega
              · rw [e1] at HNX
                clear hff
                rcases Bool.eq_false_or_eq_true (y.lang == x.to) with e3 | e3
                · rw [e3] at HNX
                  rcases Bool.eq_false_or_eq_true (decide (1073741824 < qv + x.ms)) with e4 | e4
                  all_goals
                    rw [e4] at HNX
                    simp only [Bool.true_and, Bool.false_and, Bool.false_or, if_true, Bool.false_eq_true, if_false] at HNX
                    go_wp2_with fail
                    refine wp_still_all (by kernel_rfl) (by kernel_rfl) ?_
                    repeat (first | ((with_reducible refine wpStill_step (fun K hK => ?_)); go_simp; (try go_bits); (with_reducible refine hK _ ?_); clear hK K) | ((with_reducible refine wpStill_step (fun K hK => ?_)); go_simp; rw [if_neg (by simp [undef])]; (with_reducible refine hK _ ?_); clear hK K))
                    (with_reducible refine wpStill_nil ?_)
                    go_wp2
                    go_roundw
                    case rel => exact ⟨j + 1, by omega, by go_num, by rw [HNX.out], HBd.out⟩
                    case measure => simp [nI]; omega
                · rw [e3] at HNX
                  simp only [Bool.false_and, Bool.or_false, Bool.false_eq_true, if_false] at HNX
                  go_wp2_with fail
                  refine wp_still_all (by kernel_rfl) (by kernel_rfl) ?_
                  repeat (first | ((with_reducible refine wpStill_step (fun K hK => ?_)); go_simp; (try go_bits); (with_reducible refine hK _ ?_); clear hK K) | ((with_reducible refine wpStill_step (fun K hK => ?_)); go_simp; rw [if_neg (by simp [undef])]; (with_reducible refine hK _ ?_); clear hK K))
                  (with_reducible refine wpStill_nil ?_)
                  go_wp2
                  go_roundw
                  case rel => exact ⟨j + 1, by omega, by go_num, by rw [HNX.out], HBd.out⟩
                  case measure => simp [nI]; omega
            · obtain rfl : j = L.length := by omega
              rw [List.take_length]
              have HX9 := hide (HX8.out.bel HB.out)
              have HM9 := hide (HM8.out.bel HB.out)
              have HB9 := hide (kcall HB8.out HB.out)
              clear HLok H9 HX8 HM8 HB8 HB h9l h9m hj hxl gs1 gs2
              have hxl := HX9.out.lt
              generalize byV L x = bv at *
              obtain ⟨w8b, hwb⟩ : ∃ x, x = wr := ⟨_, rfl⟩
              subst hwb
              go_wp2
              go_loopw [20, 21, 22, 23, 24, 25, 26, 141, 171] (fun _ _ _ _ _ _ _ i _ w9 => ∃ j : Nat, j ≤ b.length ∧ i = .int .i64 j ∧ Hid (Below w8b.heap.size w8b w9)) (fun _ _ _ _ _ _ _ i _ _ => b.length - (nI i).toNat)
              case atStart => exact ⟨0, Nat.zero_le _, rfl, Below.refl _ _⟩
              case round =>
                obtain ⟨j, hj, rfl, HB⟩ := hrel
                by_cases hlt : j < b.length
                · obtain ⟨y, g, off, hy, _, rfl, hgw, t0, t1, t2, t3, t4⟩ := Sl.bu_at (HS.out.bel (kcall HB9.out HB.out)) hlt
                  have hym := List.mem_of_getElem? hy
                  obtain ⟨_, hq1, _, _⟩ := HAT.out j y hy
                  obtain ⟨_, hq2, _, _⟩ := HATm.out j y hy
                  have K1 := hide (KD1.out y hym)
                  have K2 := hide (KD2.out y hym)
                  have HP := hide (HMP2.out y.lang)
                  have HT1 := hide (HTQ.out _ hq1)
                  have HT2 := hide (HTQ.out _ hq2)
                  have HG1 := hide (HQG.out (stq b l y.lang u k))
                  have HG2 := hide (HQG.out (stq b (l ++ [x]) y.lang u k))
                  have jz : (j : Int) < (b.length : Int) := by omega
                  generalize stq b l y.lang u k = q1 at *
                  generalize stq b (l ++ [x]) y.lang u k = q2 at *
                  generalize hr1 : tq q1 u = r1 at *
                  generalize hr2 : tq q2 u = r2 at *
                  obtain ⟨yn, yq1, yq2, yq3, yq4⟩ := y
                  obtain ⟨r11, r12, r13, r14⟩ := r1
                  obtain ⟨r21, r22, r23, r24⟩ := r2
                  simp only at *
                  have HBa := hide (kalloc HB.out (.cells #[.int .i64 yn, .int .i64 yq1, .int .i64 yq2, .int .i64 yq3, .int .i64 yq4] 26))
                  have XY := hide (Blk.new wr #[.int .i64 yn, .int .i64 yq1, .int .i64 yq2, .int .i64 yq3, .int .i64 yq4] 26)
                  clear hym hq1 hq2 hr1 hr2 hy HB
                  go_wp2_with fail
                  refine (K1.out _ (kcall HB9.out HBa.out)).mono ?_
                  rintro e w10 ⟨rfl, hb⟩
                  have HBb := hide (kalloc (kcall HBa.out hb) (.cells #[.int .i64 r11, .int .i64 r12, .int .i64 r13, .int .i64 r14] 24))
                  have xy := XY.out.bel hb
                  have yc0 := xy.cell (v := .int .i64 yn) 0 rfl
                  have yl := xy.lt
                  have XYb := hide (xy.alloc (.cells #[.int .i64 r11, .int .i64 r12, .int .i64 r13, .int .i64 r14] 24))
                  have X1b := hide (Blk.new w10 #[.int .i64 r11, .int .i64 r12, .int .i64 r13, .int .i64 r14] 24)
                  clear hb K1 HBa XY xy t0 t1 t2 t3 t4
                  simp only [qV, qC]
                  go_wp2_with fail
                  refine (K2.out _ (kcall HB9.out HBb.out) (HM9.out.bel HBb.out)).mono ?_
                  rintro e w11 ⟨rfl, hb⟩
                  have HBc := hide (kalloc (kcall HBb.out hb) (.cells #[.int .i64 r21, .int .i64 r22, .int .i64 r23, .int .i64 r24] 24))
                  have XYc := hide ((XYb.out.bel hb).alloc (.cells #[.int .i64 r21, .int .i64 r22, .int .i64 r23, .int .i64 r24] 24))
                  have X1c := hide ((X1b.out.bel hb).alloc (.cells #[.int .i64 r21, .int .i64 r22, .int .i64 r23, .int .i64 r24] 24))
                  have X2c := hide (Blk.new w11 #[.int .i64 r21, .int .i64 r22, .int .i64 r23, .int .i64 r24] 24)
                  clear hb K2 HBb yc0 yl XYb X1b
                  simp only [qV, qC]
                  go_wp2_with fail
                  refine at_world (fun W => Blk W wr.heap.size 26 #[.int .i64 yn, .int .i64 yq1, .int .i64 yq2, .int .i64 yq3, .int .i64 yq4] ∧ Blk W w10.heap.size 24 #[.int .i64 r11, .int .i64 r12, .int .i64 r13, .int .i64 r14] ∧ Blk W w11.heap.size 24 #[.int .i64 r21, .int .i64 r22, .int .i64 r23, .int .i64 r24] ∧ Below w8b.heap.size w8b W) ⟨XYc.out, X1c.out, X2c.out, HBc.out⟩ ?_
                  clear XYc X1c X2c HBc
                  rintro W ⟨xy, x1, x2, hBW⟩
                  have HBW := hide hBW
                  have hx9 := HX9.out.bel hBW
                  have X1 := hide x1
                  have X2 := hide x2
                  have c0 := xy.cell (v := .int .i64 yn) 0 rfl
                  have l0 := xy.lt
                  have l1 := x1.lt
                  have l2 := x2.lt
                  have l3 := hx9.lt
                  have y3 := hx9.cell (v := .int .i64 (sn : Int)) 3 (by rw [← HSN.out]; rfl)
                  have y4 := hx9.cell (v := .int .i64 x.fr) 4 rfl
                  have y5 := hx9.cell (v := .int .i64 x.to) 5 rfl
                  clear xy x1 x2 hBW hx9
                  go_wp2
                  go_loopw [25, 26, 171] (fun _ _ i w12 => ∃ s : Nat, s ≤ 4 ∧ i = .int .i64 s ∧ w12 = W) (fun _ _ i _ => 4 - (nI i).toNat)
                  case atStart => exact ⟨0, Nat.zero_le _, rfl, rfl⟩
                  case round =>
                    obtain ⟨s, hs, rfl, rfl⟩ := hrel
                    by_cases hs4 : s < 4
                    · have hsz : (s : Int) < 4 := by omega
                      have a1 := X1.out.cell s (qC_get (r11, r12, r13, r14) s hs4)
                      have a2 := X2.out.cell s (qC_get (r21, r22, r23, r24) s hs4)
                      have hb1 := okT_get HT1.out (s : Int)
                      have hp := HP.out s hs4
                      have h1 := HG1.out s hs4
                      have h2 := HG2.out s hs4
                      rw [HSN.out] at hp
                      have hbv := HBY.out
                      have hw1 : IntKind.i64.wrap (qg (r11, r12, r13, r14) (s : Int) - bv) = qg (r11, r12, r13, r14) (s : Int) - bv := by rw [IntKind.wrap_i64]; omega
                      have hw2 : IntKind.i64.wrap (qg (r11, r12, r13, r14) (s : Int) + bv) = qg (r11, r12, r13, r14) (s : Int) + bv := by rw [IntKind.wrap_i64]; omega
                      generalize qg (r11, r12, r13, r14) (s : Int) = v1 at *
                      generalize qg (r21, r22, r23, r24) (s : Int) = v2 at *
                      generalize path q1 (s : Int) = p1 at *
                      generalize path q2 (s : Int) = p2 at *
                      have hc : (decide (sn ≤ s) = false ∧ v2 = v1) ∨ (decide (sn ≤ s) = true ∧ (((yn == x.fr) = true ∧ (yn == x.to) = false ∧ v2 = v1 - bv) ∨ ((yn == x.fr) = false ∧ (yn == x.to) = true ∧ v2 = v1 + bv) ∨ ((yn == x.fr) = false ∧ (yn == x.to) = false ∧ v2 = v1))) := by
                        have hne := HNE.out
                        by_cases g : sn ≤ s
                        · right
                          refine ⟨decide_eq_true g, ?_⟩
                          by_cases e1 : yn = x.fr
                          · left
                            rw [if_pos ⟨by omega, e1⟩] at hp
                            exact ⟨by simpa using e1, by simp; omega, by omega⟩
                          · right
                            have n1 : ¬ ((sn : Int) ≤ (s : Int) ∧ yn = x.fr) := fun h => e1 h.2
                            rw [if_neg n1] at hp
                            by_cases e3 : yn = x.to
                            · left
                              rw [if_pos ⟨by omega, e3⟩] at hp
                              exact ⟨by simpa using e1, by simpa using e3, by omega⟩
                            · right
                              have n3 : ¬ ((sn : Int) ≤ (s : Int) ∧ yn = x.to) := fun h => e3 h.2
                              rw [if_neg n3] at hp
                              exact ⟨by simpa using e1, by simpa using e3, by omega⟩
                        · left
                          have n1 : ¬ ((sn : Int) ≤ (s : Int) ∧ yn = x.fr) := fun h => g (by omega)
                          have n3 : ¬ ((sn : Int) ≤ (s : Int) ∧ yn = x.to) := fun h => g (by omega)
                          rw [if_neg n1, if_neg n3] at hp
                          exact ⟨decide_eq_false g, by omega⟩
                      clear hp h1 h2 hbv hb1 hs
                      have gft : (x.fr == x.to) = false := beq_eq_false_iff_ne.2 HNE.out
                      have gtf : (x.to == x.fr) = false := beq_eq_false_iff_ne.2 (fun e => HNE.out e.symm)
                      rcases hc with ⟨g1, rfl⟩ | ⟨g1, ⟨e1, e3, rfl⟩ | ⟨e1, e3, rfl⟩ | ⟨e1, e3, rfl⟩⟩
                      all_goals
                        go_wp2
                        go_roundw
                        case rel => exact ⟨s + 1, by omega, by go_num, trivial⟩
                        case measure => simp [nI]; omega
                    · obtain rfl : s = 4 := by omega
                      go_wp2
                      go_roundw
                      case rel => exact ⟨j + 1, by omega, by go_num, HBW⟩
                      case measure => simp [nI]; omega
                · go_wp2
                  go_ret
                  exact ⟨rfl, kcall HB9.out HB.out⟩
    · have KT := KT
      generalize fewD b (l ++ [x]) = r1 at *
      generalize (timeB u && timeB k) = r2 at *
      have hc : r1 = false ∨ (r1 = true ∧ r2 = false) ∨ (r1 = true ∧ r2 = true ∧ decide (u < x.at_) = true) ∨ (r1 = true ∧ r2 = true ∧ decide (u < x.at_) = false ∧ decide (k < x.known) = true) := by
        cases r1 <;> cases r2 <;> cases h3 : decide (u < x.at_) <;> cases h4 : decide (k < x.known) <;> simp_all
      clear hr
      rcases hc with rfl | ⟨rfl, rfl⟩ | ⟨rfl, rfl, g1⟩ | ⟨rfl, rfl, g1, g2⟩
      · go_wp2
        go_ret
        exact ⟨rfl, HB6.out⟩
      all_goals
        go_wp2_with fail
        with_reducible refine (KT.out _ _ rfl).mono ?_
        rintro e w' ⟨rfl, rfl⟩
        go_wp2
        go_ret
        exact ⟨rfl, kalloc HB6.out _⟩
end Go.Proofs.Ytklndmnhhakmiaa

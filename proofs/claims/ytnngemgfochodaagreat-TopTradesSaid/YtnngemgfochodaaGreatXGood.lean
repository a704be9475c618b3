/-
  TopTrades, at input that it takes.
-/
import Derived.Test.YtnngemgfochodaaGreatXW8
import Derived.Test.YtnngemgfochodaaGreatXW7
namespace Go.Proofs.YtnngemgfochodaaGreat
open Go.RowKit Go.Shelf Go.Mine Go.Mine.B Go.Mine.X
attribute [local go_sem] Oper.semAt_some
def noB2 : Bu := ⟨-1, (0, 0, 0, 0)⟩
theorem path_no2 (w : World) : Calls Tryz.prog 4 #[.agg #[.int .i64 (-1), .int .i64 0, .int .i64 0, .int .i64 0, .int .i64 0], .int .i64 0] w fun e w' => e = .returned (.tuple #[.int .i64 0, .int .i64 400]) ∧ Below w.heap.size w w' := path16 noB2 0 w
theorem buA_set (n : Int) (q : Q) (s : Nat) (hs : s < 4) (v : Int) : (buC ⟨n, q⟩).toArray.setIfInBounds (1 + s) (.int .i64 v) = (buC ⟨n, qs q s v⟩).toArray := by
  have h : s = 0 ∨ s = 1 ∨ s = 2 ∨ s = 3 := by omega
  rcases h with rfl | rfl | rfl | rfl <;> rfl
theorem lang_of {b : List Bu} {l : List Tr} (h : chkB b l = true) : (∀ y ∈ b, 0 ≤ y.lang ∧ y.lang ≤ 31) ∧ trS l := by
  obtain ⟨h1, _, h3, _⟩ := chkB_parts h
  have hb : ∀ y ∈ b, 0 ≤ y.lang ∧ y.lang ≤ 31 := fun y hy => (rightB_ok (h1 y hy)).2
  refine ⟨hb, fun x hx => ?_⟩
  obtain ⟨g1, g2, _⟩ := rightT_parts (h3 x hx)
  obtain ⟨y, hy, e1⟩ := List.any_eq_true.1 g1
  obtain ⟨z, hz, e2⟩ := List.any_eq_true.1 g2
  have e1 : y.lang = x.fr := of_decide_eq_true e1
  have e2 : z.lang = x.to := of_decide_eq_true e2
  have := hb y hy
  have := hb z hz
  unfold I64
  omega
theorem no_ok {b : List Bu} {l : List Tr} (h : chkB b l = true) : ∀ x ∈ l, 0 ≤ x.no ∧ x.no ≤ 1048576 := by
  obtain ⟨_, _, h3, _⟩ := chkB_parts h
  intro x hx
  have := h3 x hx
  unfold rightT at this
  simp only [Bool.and_eq_true] at this
  exact inR_iff.1 this.1.1.1.1.1.1.1
set_option maxRecDepth 100000 in
set_option maxHeartbeats 16000000 in
theorem top_good (A : Option Addr) (c : Nat) (b : List Bu) (B : Option Addr) (d : Nat) (l : List Tr) (st : Nat) (at_ known : Int) (C : Option Addr) (f : Nat) (ds : List Int) (D : Option Addr) (g : Nat) (ns : List Int) (w : World) (hS : Sl buC 5 w A c b) (hT : Sl trC 7 w B d l) (hC : Sl ic 1 w C f ds) (hD : Sl ic 1 w D g ns) (hst : st < 256)
    (h0 : 0 < b.length) (h1 : b.length ≤ 6) (h2 : l.length ≤ 20) (hz : chk 400 b l = 0) (h4 : 0 ≤ at_ ∧ at_ < 549755813888) (h6 : 0 ≤ known ∧ known < 1099511627776) (h8 : ds.length = b.length) (h9 : ns.length = b.length) :
    Calls Tryz.prog 3 #[.slice A b.length c, .slice B l.length d, .int .u8 st, .int .i64 at_, .int .i64 known, .slice C b.length f, .slice D b.length g] w fun e w' => e = .returned (.bool true) ∧ Below w.heap.size w w' := by
  obtain ⟨hcb, _, _⟩ := chk_zero' hz
  obtain ⟨hp1, hp2, hp3, hp4⟩ := chkB_parts hcb
  obtain ⟨hlg, hJ⟩ := lang_of hcb
  have hI : buS b := fun y hy => by have := hlg y hy; unfold I64; omega
  have hta : timeB at_ = true := timeB_iff.2 ⟨h4.1, by omega⟩
  have htk : timeB known = true := timeB_iff.2 h6
  have ha : argA at_ known = true := argA_of hta htk
  have hlc := hS.le
  have hc := hS.max
  have hld := hT.le
  have hd := hT.max
  have hCf := hC.le
  have hCm := hC.max
  have hDf := hD.le
  have hDm := hD.max
  rw [h8] at hCf
  rw [h9] at hDf
  obtain ⟨s, hs⟩ : ∃ s, st % 4 = s := ⟨_, rfl⟩
  have hs4 : s < 4 := by omega
  have hsm : ((st : Int) % 4) = (s : Int) := by omega
  have hstg : stage (s : Int) := ⟨by omega, by omega⟩
  have hws : IntKind.i64.wrap (st : Int) = (st : Int) := by rw [IntKind.wrap_i64]; omega
  have htm : (st : Int).tmod 4 = (s : Int) := by rw [Int.tmod_eq_emod_of_nonneg (by omega)]; omega
  have K5 := hide (fun W (h : Below w.heap.size w W) => check19 A c b B d l W (hS.bel h) (hT.bel h))
  rw [hz] at K5
  have K6 := hide (fun W (h : Below w.heap.size w W) => error6 C f ds W (hC.bel h))
  rw [h8] at K6
  have K7 := hide (fun W (h : Below w.heap.size w W) => standing20_good A c b B d l at_ known W (hS.bel h) (hT.bel h) hI hJ hz ha)
  unfold SlE at K7
  rw [standing_len] at K7
  have g0 : (b.length == 0) = false := by simp only [beq_eq_false_iff_ne, ne_eq]; omega
  have k1 : ¬ b.length = 0 := by omega
  have k2 : ((b.length : Int) == 0) = false := by simp only [beq_eq_false_iff_ne, ne_eq]; omega
  have k3 : ¬ b = [] := by rintro rfl; exact k1 rfl
  have k4 : ¬ (b.length : Int) = 0 := by omega
  have g1 : ¬ (6 : Int) < (b.length : Int) := by omega
  have g2 : ¬ (20 : Int) < (l.length : Int) := by omega
  have g5 : ¬ at_ < 0 := by omega
  have g6 : ¬ (549755813888 : Int) ≤ at_ := by omega
  have g7 : ¬ known < 0 := by omega
  have g8 : ¬ (1099511627776 : Int) ≤ known := by omega
  have HS := hide hS
  have HT := hide hT
  have HC := hide hC
  have HD := hide hD
  have HST := hide (And.intro hs hst)
  have H89 := hide (And.intro h8 h9)
  clear hS hT hC hD hs hst h8 h9
  by_cases hz6 : errP ds = 0
  rotate_left
  · have gz : (errP ds == 0) = false := by simpa using hz6
    have gz2 : (errP ds != 0) = true := by simpa using hz6
    generalize errP ds = z at *
    go_enter Tryz.func3, Tryz.ntmps3
    go_wp2_with fail
    refine (path_no2 w).mono ?_
    rintro e w1 ⟨rfl, hb⟩
    have HB1 := hide hb
    clear hb
    go_wp2_with fail
    refine (K5.out _ HB1.out).mono ?_
    rintro e w2 ⟨rfl, hb⟩
    have HB2 := hide (kcall HB1.out hb)
    clear hb
    go_wp2_with fail
    refine (K6.out _ HB2.out).mono ?_
    rintro e w3 ⟨rfl, rfl⟩
    go_wp2
    go_ret
    exact ⟨rfl, HB2.out⟩
  obtain ⟨hd32, hdb⟩ := errP_zero hz6
  rw [hz6] at K6
  clear hz6
  go_enter Tryz.func3, Tryz.ntmps3
  go_wp2_with fail
  refine (path_no2 w).mono ?_
  rintro e w1 ⟨rfl, hb⟩
  have HB1 := hide hb
  clear hb
  go_wp2_with fail
  refine (K5.out _ HB1.out).mono ?_
  rintro e w2 ⟨rfl, hb⟩
  have HB2 := hide (kcall HB1.out hb)
  clear hb K5
  go_wp2_with fail
  refine (K6.out _ HB2.out).mono ?_
  rintro e w3 ⟨rfl, rfl⟩
  clear K6
  go_wp2_with fail
  refine (K7.out _ HB2.out).mono ?_
  rintro e w4 ⟨A4, c4, rfl, hS4, hb⟩
  have HB4 := hide (kcall HB2.out hb)
  have HS4 := hide hS4
  have h4c := hS4.le
  rw [standing_len] at h4c
  have h4m := hS4.max
  clear hb K7 g1 g2 g5 g6 g7 g8
  have K8 := hide (fun W (h : Below w4.heap.size w4 W) => targets8 A4 c4 (standing b l at_ known) s C f ds W (hS4.bel h) (HC.out.bel (kcall HB4.out h)) hs4 (fun y hy => by
    obtain ⟨z, hz', rfl⟩ := List.mem_map.1 hy
    exact okP_get (okP_fin hcb at_ known) z.lang) (by rw [standing_len]; exact h1) (by rw [standing_len]; exact h0) (by rw [standing_len]; exact H89.out.1) hdb)
  rw [standing_len, H89.out.1] at K8
  clear hS4
  go_wp2_with fail
  refine (K8.out _ (Below.refl _ _)).mono ?_
  rintro e w5 ⟨hb, (⟨A5, c5, T, rfl, hS5, hTG⟩ | rfl)⟩
  rotate_left
  · have HB5 := hide (kcall HB4.out hb)
    clear hb K8
    go_wp2
    go_ret
    exact ⟨rfl, HB5.out⟩
  have HB5 := hide (kcall HB4.out hb)
  have HS5 := hide hS5
  have HS4 := hide (HS4.out.bel hb)
  have hTl : T.length = b.length := by rw [hTG.len, standing_len]
  have hTs : T.sum = (b.map fun y => valP (fin b l at_ known) y.lang (s : Int)).sum := by
    rw [hTG.sum]
    unfold standing viewB
    rw [List.map_map]
    rfl
  have hTb := hTG.ok
  have h5c := hS5.le
  have h5m := hS5.max
  rw [hTl] at h5c
  rw [hTl]
  clear hb K8 hS5 hTG
  obtain ⟨i1, hi1, hy0, hy1, hy2⟩ := info_parts Try_infoT
  have HIT := hide hi1
  have HP := hide (okP_fin hcb at_ known)
  have K9 := hide (fun no hno W (h : Below w5.heap.size w5 W) => trades9 b (fin b l at_ known) T s no at_ known A4 c4 A5 c5 W (HS4.out.bel h) (HS5.out.bel h) hs4 HP.out hp2 h1 hTl hTb hTs hno)
  rw [hTl] at K9
  have hno : ∃ no : Int, (0 ≤ no ∧ no ≤ 1048577) ∧ (∀ x ∈ l, x.no < no) ∧ ((¬ (0 : Int) < (l.length : Int) ∧ no = 0) ∨ ((0 : Int) < (l.length : Int) ∧ ∃ x, l[l.length - 1]? = some x ∧ no = x.no + 1)) := by
    by_cases h : l = []
    · subst h
      exact ⟨0, by omega, by simp, .inl ⟨by simp, rfl⟩⟩
    · have hp := List.length_pos_iff.2 h
      obtain ⟨x, hx⟩ : ∃ x, l[l.length - 1]? = some x := ⟨_, List.getElem?_eq_getElem (by omega)⟩
      have := no_ok hcb x (List.mem_of_getElem? hx)
      exact ⟨x.no + 1, by omega, nos_lt hp4 hx, .inr ⟨by omega, x, hx, rfl⟩⟩
  obtain ⟨no, hnb, hnl, hn⟩ := hno
  have HNL := hide hnl
  have hno36 : IntKind.i64.wrap (no + 36) = no + 36 := by rw [IntKind.wrap_i64]; omega
  have K9 := hide (K9.out no (by omega))
  clear hnl
  rcases hn with ⟨q1, rfl⟩ | ⟨q1, x, hx, rfl⟩
  rotate_left
  · obtain ⟨x', bB, oB, hx', _, rfl, hbB, cB, _⟩ := Sl.tr_at (HT.out.bel HB5.out) (show l.length - 1 < l.length by omega)
    rw [hx] at hx'
    obtain rfl := Option.some.inj hx'
    have hwl : IntKind.i64.wrap ((l.length : Int) - 1) = ((l.length - 1 : Nat) : Int) := by rw [IntKind.wrap_i64]; omega
    have hwl2 : ((l.length - 1 : Nat) : Int) < (l.length : Int) := by omega
    have hwn : IntKind.i64.wrap (x.no + 1) = x.no + 1 := by rw [IntKind.wrap_i64]; omega
    clear hx hx'
    go_wp2_with (at_builtin; refine wpList_append rfl (.tmp 144) (.tmp 145) 23 rfl rfl rfl (run_ext_tr (base := w5.heap.size) (l1 := []) (l2 := l) Tryz.underlying23 HIT.out hy0 hy1 hy2 rfl (OwnL.fresh' (by simp) (by omega)) rfl ((HT.out.bel HB5.out).alloc _) ?_ ?_ ?_) ?_)
    · simp [maxLen]; omega
    · simp; omega
    · simp
    · intro v6 w6 hO6 hg6 hat6
      have hb6 : Below w5.heap.size w5 w6 := Below.grown (kalloc (Below.refl _ _) _) hg6 (by simp) (fun k hk => by simp [Value.ownBlock] at hk; omega)
      have HO6 := hide hO6
      have HB6 := hide hb6
      clear hO6 hg6 hat6 hb6
      go_wp2_with fail
      refine (K9.out w6 HB6.out).mono ?_
      rintro e w7 ⟨A7, c7, ts, rfl, hS7, hDn, hts, hb⟩
      have HO7 := hide (HO6.out.bel hb)
      have HB7 := hide (kcall HB6.out hb)
      have HS7 := hide hS7
      have h7c := hS7.le
      have h7m := hS7.max
      have h7z := HB7.out.size
      have HDn := hide hDn
      clear hb hS7 hDn K9 HO6 HB6
      go_wp2_with (at_builtin; refine wpList_append rfl (.tmp 146) (.tmp 153) 23 rfl rfl rfl (run_ext_tr (base := w5.heap.size) (l1 := l) (l2 := ts) Tryz.underlying23 HIT.out hy0 hy1 hy2 rfl HO7.out rfl HS7.out ?_ ?_ ?_) ?_)
      · simp [maxLen]; omega
      · omega
      · omega
      · intro v8 w8 hO8 hg8 hat8
        obtain ⟨A8, c8, rfl, hS8⟩ := hO8.sl
        have HB8 := hide (Below.grown HB7.out hg8 h7z (fun g hg => (HO7.out.blk hg).1))
        have hchk := after_chk hstg hz h1 h2 HDn.out hts ⟨h4.1, by omega⟩ h6 ⟨hnb.1, HNL.out⟩
        have HQ := hide (fun (i : Nat) (y : Bu) (t : Int) hy ht => done_q (i := i) (y := y) (t := t) hstg HDn.out hy ht)
        have hLl : (l ++ ts).length ≤ 56 := by rw [List.length_append]; omega
        obtain ⟨L, hL⟩ : ∃ L, l ++ ts = L := ⟨_, rfl⟩
        have hLn : l.length + ts.length = L.length := by rw [← hL, List.length_append]
        rw [hL] at hS8 hchk HQ hLl
        have h8c := hS8.le
        have h8m := hS8.max
        have HS8 := hide hS8
        try rw [hL]
        try rw [hLn]
        clear hO8 hg8 hat8 hS8 HO7 HS7 HDn hL HB7 h7z h7c h7m HNL
        have K5b := hide (fun W (h : Below w8.heap.size w8 W) => check19 A c b A8 c8 L W (HS.out.bel (kcall HB5.out (kcall HB8.out h))) (HS8.out.bel h))
        rcases hchk with hzL | ⟨hzL, hbig⟩
        rotate_left
        · have gz : (chk 400 b L == 0) = false := by simpa using hzL
          have gz2 : (chk 400 b L != 0) = true := by simpa using hzL
          generalize chk 400 b L = z at *
          first
            | (exfalso; omega)
            | (have hd2 : decide (1048576 < x.no + 1 + 36) = true := decide_eq_true hbig
               go_wp2_with fail
               refine (K5b.out _ (Below.refl _ _)).mono ?_
               rintro e w9 ⟨rfl, hb⟩
               have HB9 := hide (kcall HB5.out (kcall HB8.out hb))
               go_wp2
               go_ret
               exact ⟨ret_bool (by first | exact hd2 | simp), HB9.out⟩)
        · have hJL := (lang_of (chk_zero' hzL).1).2
          have K7b := hide (fun W (h : Below w8.heap.size w8 W) => standing20_good A c b A8 c8 L at_ known W (HS.out.bel (kcall HB5.out (kcall HB8.out h))) (HS8.out.bel h) hI hJL hzL ha)
          unfold SlE at K7b
          rw [standing_len] at K7b
          rw [hzL] at K5b
          have K10 := hide (fun (y : Bu) hy W (h : Below w8.heap.size w8 W) => due10 (y := y) hz hI hJ hy hta htk (HS.out.bel (kcall HB5.out (kcall HB8.out h))) (HT.out.bel (kcall HB5.out (kcall HB8.out h))))
          have K10b := hide (fun (y : Bu) hy W (h : Below w8.heap.size w8 W) => due10 (y := y) hzL hI hJL hy hta htk (HS.out.bel (kcall HB5.out (kcall HB8.out h))) (HS8.out.bel h))
          have K11 := hide (fun (y : Bu) hy W (h : Below w8.heap.size w8 W) => left11 (y := y) hzL hI hJL hy hta htk hs4 (HS.out.bel (kcall HB5.out (kcall HB8.out h))) (HS8.out.bel h))
          have K12 := hide (fun W (h : Below w8.heap.size w8 W) => J.done12 at_ A5 c5 T D g ns W (HS5.out.bel (kcall HB8.out h)) (HD.out.bel (kcall HB5.out (kcall HB8.out h))) h4 hTb (by omega) (H89.out.2.trans hTl.symm))
          rw [H89.out.2, hTl] at K12
          unfold DueE at K10 K10b
          unfold LeftE at K11
          have HOK := hide (fun n => okQ_stq hcb n at_ known)
          have e30 := eq30s
          go_wp2_with fail
          refine (K5b.out _ (Below.refl _ _)).mono ?_
          rintro e w9 ⟨rfl, hb⟩
          have HB9 := hide hb
          clear hb K5b
          go_wp2_with fail
          refine (K7b.out _ HB9.out).mono ?_
          rintro e w10 ⟨A10, c10, rfl, hS10, hb⟩
          have HB10 := hide (kcall HB9.out hb)
          have HS10 := hide hS10
          have hAc := hS10.le
          rw [standing_len] at hAc
          have hAm := hS10.max
          clear hb hS10 K7b HB9
          go_wp2
          go_loopw [181] (fun i wr => ∃ k : Nat, k ≤ b.length ∧ i = .int .i64 k ∧ Hid (Below w10.heap.size w10 wr)) (fun i _ => b.length - (nI i).toNat)
          case atStart => exact ⟨0, Nat.zero_le _, rfl, Below.refl _ _⟩
          case round =>
            obtain ⟨k, hk, rfl, HBk⟩ := hrel
            obtain ⟨wo, hwo⟩ : ∃ x, x = wr := ⟨_, rfl⟩
            subst hwo
            have HW8 := hide (kcall HB10.out HBk.out)
            by_cases hlt : k < b.length
            · have kz : (k : Int) < (b.length : Int) := by omega
              have HBA := hide (kcall HB8.out HW8.out)
              have HBW := hide (kcall HB5.out HBA.out)
              obtain ⟨y, hy⟩ : ∃ y, b[k]? = some y := ⟨_, List.getElem?_eq_getElem hlt⟩
              have hym := List.mem_of_getElem? hy
              have K10 := hide (K10.out y hym)
              have K10b := hide (K10b.out y hym)
              have K11 := hide (K11.out y hym)
              have hklN : k < (standing b l at_ known).length := by rw [standing_len]; exact hlt
              have hklT : k < (standing b L at_ known).length := by rw [standing_len]; exact hlt
              have hklS : k < T.length := by omega
              obtain ⟨xn, bn, on, hxn, _, rfl, hbn, n0, n1, n2, n3, n4⟩ := Sl.bu_at (HS4.out.bel HBA.out) hklN
              rw [stand_at l at_ known hy] at hxn
              obtain rfl := Option.some.inj hxn
              obtain ⟨t, bT, oT, ht, _, rfl, hbT, _⟩ := Sl.ic_at (HS5.out.bel HBA.out) hklS
              have hQ := HQ.out k y t hy ht
              have htb := hTb t (List.mem_of_getElem? ht)
              have hqb := HOK.out y.lang
              have HNT := hide (stand_at l at_ known hy)
              have HLT := hide (stand_at L at_ known hy)
              have HTT := hide ht
              have HYY := hide hy
              rw [hQ] at K10b K11 HLT
              obtain ⟨q, hq⟩ : ∃ q, stq b l y.lang at_ known = q := ⟨_, rfl⟩
              rw [hq] at K10 K10b K11 hqb HNT HLT
              simp only [hq] at n0 n1 n2 n3 n4
              have HDM := hide (fun (j : Nat) (hj : j < 4) => due_moved q (s := (s : Int)) (k := (j : Int)) t at_ hstg ⟨by omega, by omega⟩)
              have HOB := hide (fun (j : Nat) (hj : j < 4) => show 0 ≤ qg (tq q at_) (j : Int) ∧ qg (tq q at_) (j : Int) ≤ 1103806595072 by
                rw [qg_tq q at_ ⟨by omega, by omega⟩]
                have := path_ok hqb (j : Int)
                omega)
              have hsq := okQ_get hqb (s : Int)
              unfold most at hsq
              obtain ⟨o, ho⟩ : ∃ o, tq q at_ = o := ⟨_, rfl⟩
              obtain ⟨o', ho'⟩ : ∃ o', tq (qs q (s : Int) t) at_ = o' := ⟨_, rfl⟩
              have HSE := hide (show (buC ⟨y.lang, q⟩).toArray.setIfInBounds (1 + s) (.int .i64 t) = (buC ⟨y.lang, qs q (s : Int) t⟩).toArray from buA_set y.lang q s hs4 t)
              have HGS := hide (buC_get ⟨y.lang, q⟩ s hs4)
              have HGS' := hide (buC_get' ⟨y.lang, q⟩ s hs4)
              obtain ⟨r, hr⟩ : ∃ r, qs q (s : Int) t = r := ⟨_, rfl⟩
              obtain ⟨gs, hgs⟩ : ∃ gs, qg q (s : Int) = gs := ⟨_, rfl⟩
              rw [ho'] at K10b K11 HDM
              rw [ho] at K10 HDM HOB
              rw [hr] at HSE HLT
              rw [hgs] at HDM hsq
              simp only [hgs] at HGS HGS'
              have HGO := hide (fun (j : Nat) (hj : j < 4) => qC_get o j hj)
              have HGP := hide (fun (j : Nat) (hj : j < 4) => qC_get o' j hj)
              have HPB := hide (fun (j : Nat) (hj : j < 4) => show 0 ≤ qg o' (j : Int) + 1073741824 ∧ qg o' (j : Int) ≤ 1104880336896 by
                have h1 := HDM.out j hj
                have h2 := HOB.out j hj
                rw [h1]
                split <;> omega)
              clear hq hQ hy ht hqb ho ho' hr hgs hym
              obtain ⟨q1, q2, q3, q4⟩ := q
              obtain ⟨r1, r2, r3, r4⟩ := r
              obtain ⟨o1, o2, o3, o4⟩ := o
              obtain ⟨p1, p2, p3, p4⟩ := o'
              simp only [qV, qC] at K10 K10b K11
              dsimp only at n0 n1 n2 n3 n4
              obtain ⟨wa, hwa⟩ : ∃ wa, wo.alloc (.cells #[.int .i64 y.lang, .int .i64 q1, .int .i64 q2, .int .i64 q3, .int .i64 q4] 30) = wa := ⟨_, rfl⟩
              have Xa : Blk wa wo.heap.size 30 (buC ⟨y.lang, (q1, q2, q3, q4)⟩).toArray := by rw [← hwa]; exact Blk.new _ _ _
              have hba : Below wo.heap.size wo wa := by rw [← hwa]; exact kalloc (Below.refl _ _) _
              obtain ⟨w11, hw11⟩ : ∃ w11, wa.setCell ⟨wo.heap.size, 1 + s, none⟩ (.int .i64 t) = w11 := ⟨_, rfl⟩
              have X11 : Blk w11 wo.heap.size 30 #[.int .i64 y.lang, .int .i64 r1, .int .i64 r2, .int .i64 r3, .int .i64 r4] := by rw [← hw11]; exact Xa.set (1 + s) _ HSE.out
              have hb11 : Below wo.heap.size wo w11 := by rw [← hw11]; exact hba.setCell (by dsimp only; omega) _
              have ya := Xa.cell (1 + s) HGS.out
              have za := Xa.thaw (1 + s)
              have la := Xa.lt
              obtain ⟨_, _, _, htt, _, e', hbT', t0⟩ := Sl.ic_at (HS5.out.bel (kcall HBA.out hba)) hklS
              cases e'
              obtain rfl := Option.some.inj (HTT.out.symm.trans htt)
              obtain ⟨xt, bt, ot, hxt, _, rfl, hbt, m0, m1, m2, m3, m4⟩ := Sl.bu_at (HS10.out.bel (kcall HBk.out hb11)) hklT
              rw [HLT.out] at hxt
              obtain rfl := Option.some.inj hxt
              dsimp only at m0 m1 m2 m3 m4
              have v0 := X11.cell (v := .int .i64 y.lang) 0 rfl
              have v1 := X11.cell (v := .int .i64 r1) 1 rfl
              have v2 := X11.cell (v := .int .i64 r2) 2 rfl
              have v3 := X11.cell (v := .int .i64 r3) 3 rfl
              have v4 := X11.cell (v := .int .i64 r4) 4 rfl
              have vl := X11.lt
              obtain ⟨xb, bb, ob, hxb, _, rfl, hbb, b0, _⟩ := Sl.bu_at (HS.out.bel (kcall HBW.out hb11)) hlt
              obtain rfl := Option.some.inj (HYY.out.symm.trans hxb)
              have H11 := hide (kcall HW8.out hb11).drew
              have HB11 := hide hb11.drew
              clear Xa X11 hba hb11 hxt hxb htt
              go_wp2_with fail
              refine wp_still_all (by kernel_rfl) (by kernel_rfl) ?_
              repeat ((with_reducible refine wpStill_step (fun K hK => ?_)); go_simp; (try go_bits); (with_reducible refine hK _ ?_); clear hK K)
              (with_reducible refine wpStill_nil ?_)
              go_wp2_with fail
              refine (K10.out _ H11.out).mono ?_
              rintro e w13 ⟨rfl, hb⟩
              obtain ⟨w14, hw14⟩ : ∃ w14, w13.alloc (.cells #[.int .i64 o1, .int .i64 o2, .int .i64 o3, .int .i64 o4] 28) = w14 := ⟨_, rfl⟩
              have X14 : Blk w14 w13.heap.size 28 #[.int .i64 o1, .int .i64 o2, .int .i64 o3, .int .i64 o4] := by rw [← hw14]; exact Blk.new _ _ _
              have HX14 := hide X14
              have H14 : Hid (Below w8.heap.size w8 w14) := hide (by rw [← hw14]; exact kalloc (kcall H11.out hb) _)
              have hb14 : Below wo.heap.size wo w14 := by rw [← hw14]; exact kalloc (kcall HB11.out hb) _
              have HB14 := hide hb14
              obtain ⟨_, _, _, hxb, _, e', hbb, b0, _⟩ := Sl.bu_at (HS.out.bel (kcall HBW.out hb14)) hlt
              cases e'
              obtain rfl := Option.some.inj (HYY.out.symm.trans hxb)
              clear hb hxb hb14 X14 m0 m1 m2 m3 m4 v0 v1 v2 v3 v4 vl ya za la t0 n0 n1 n2 n3 n4 hw11 hwa K10
              go_wp2_with fail
              refine (K10b.out _ H14.out).mono ?_
              rintro e w15 ⟨rfl, hb⟩
              obtain ⟨w16, hw16⟩ : ∃ w16, w15.alloc (.cells #[.int .i64 p1, .int .i64 p2, .int .i64 p3, .int .i64 p4] 28) = w16 := ⟨_, rfl⟩
              have X16 : Blk w16 w15.heap.size 28 #[.int .i64 p1, .int .i64 p2, .int .i64 p3, .int .i64 p4] := by rw [← hw16]; exact Blk.new _ _ _
              have HX16 := hide X16
              have HX14 := hide (show Blk w16 w13.heap.size 28 #[.int .i64 o1, .int .i64 o2, .int .i64 o3, .int .i64 o4] by rw [← hw16]; exact (HX14.out.bel hb).alloc _)
              have H16 : Hid (Below w8.heap.size w8 w16) := hide (by rw [← hw16]; exact kalloc (kcall H14.out hb) _)
              have hb16 : Below wo.heap.size wo w16 := by rw [← hw16]; exact kalloc (kcall HB14.out hb) _
              have HB16 := hide hb16
              obtain ⟨_, _, _, hxb, _, e', hbb, b0, _⟩ := Sl.bu_at (HS.out.bel (kcall HBW.out hb16)) hlt
              cases e'
              obtain rfl := Option.some.inj (HYY.out.symm.trans hxb)
              clear hb hxb hb16 X16 hw14 K10b
              go_wp2_with fail
              refine (K11.out _ H16.out).mono ?_
              rintro e w17 ⟨rfl, hb⟩
              have HX16 := hide (HX16.out.bel hb)
              have HX14 := hide (HX14.out.bel hb)
              have H17 := hide (kcall H16.out hb)
              have HB17 := hide (kcall HB16.out hb)
              have u31 := HX16.out.cell s (HGP.out s hs4)
              have l31 := HX16.out.lt
              have hps := HPB.out s hs4
              have hwS : IntKind.i64.wrap (qg (p1, p2, p3, p4) (s : Int) - at_) = qg (p1, p2, p3, p4) (s : Int) - at_ := by rw [IntKind.wrap_i64]; omega
              clear hb K11 hw16 b0
              go_wp2
              go_loopw [261] (fun i wr => ∃ j : Nat, j ≤ 4 ∧ i = .int .i64 j ∧ Hid (Below w17.heap.size w17 wr)) (fun i _ => 4 - (nI i).toNat)
              case atStart => exact ⟨0, by omega, rfl, Below.refl _ _⟩
              case round =>
                obtain ⟨j, hj, rfl, HBj⟩ := hrel
                clear u31 l31 hps hwS
                by_cases hj4 : j < 4
                · have jz : (j : Int) < 4 := by omega
                  have X31 := HX16.out.bel HBj.out
                  have X29 := HX14.out.bel HBj.out
                  have u31 := X31.cell j (HGP.out j hj4)
                  have l31 := X31.lt
                  have u29 := X29.cell j (HGO.out j hj4)
                  have l29 := X29.lt
                  have hdm := HDM.out j hj4
                  have hob := HOB.out j hj4
                  clear X31 X29
                  have HBr := hide (kcall HBA.out (kcall HB17.out HBj.out))
                  by_cases hsj : s ≤ j
                  · have gsj : ((s : Int) ≤ (j : Int)) := by omega
                    rw [if_pos gsj] at hdm
                    rw [hdm] at u31
                    obtain ⟨_, _, _, htt, _, e', hbT', t0⟩ := Sl.ic_at (HS5.out.bel HBr.out) hklS
                    cases e'
                    obtain rfl := Option.some.inj (HTT.out.symm.trans htt)
                    obtain ⟨xm, bm, om, hxm, _, e', hbm, cm⟩ := (HS4.out.bel HBr.out).at_ hklN
                    cases e'
                    obtain rfl := Option.some.inj (HNT.out.symm.trans hxm)
                    have n0 : wr.cell? ⟨bn, on + k * 5 + 1 + s, none⟩ = some (.int .i64 gs) := by
                      have h := cm (1 + s) _ HGS'.out
                      first
                        | (rw [show on + k * 5 + (1 + s) = on + k * 5 + 1 + s by omega] at h; exact h)
                        | (rw [show on + (k * 5 + (1 + s)) = on + k * 5 + 1 + s by omega] at h; exact h)
                    have hwt : IntKind.i64.wrap (t - gs) = t - gs := by rw [IntKind.wrap_i64]; omega
                    have hwo2 : IntKind.i64.wrap (qg (o1, o2, o3, o4) (j : Int) + (t - gs)) = qg (o1, o2, o3, o4) (j : Int) + (t - gs) := by rw [IntKind.wrap_i64]; omega
                    have HBn := hide HBj.out.drew.drew
                    have hs4z : (s : Int) < 4 := by omega
                    clear htt hxm cm hdm
                    go_wp2_with fail
                    refine wp_still_all (by kernel_rfl) (by kernel_rfl) ?_
                    repeat ((with_reducible refine wpStill_step (fun K hK => ?_)); go_simp; (try go_bits); (with_reducible refine hK _ ?_); clear hK K)
                    (with_reducible refine wpStill_nil ?_)
                    go_wp2_with fail
                    refine wp_still_all (by kernel_rfl) (by kernel_rfl) ?_
                    repeat ((with_reducible refine wpStill_step (fun K hK => ?_)); go_simp; (try go_bits); (with_reducible refine hK _ ?_); clear hK K)
                    (with_reducible refine wpStill_nil ?_)
                    go_wp2
                    go_roundw
                    case rel => exact ⟨j + 1, by omega, by go_num, HBn⟩
                    case measure => simp [nI]; omega
                  · have gsj : ¬ ((s : Int) ≤ (j : Int)) := by omega
                    rw [if_neg gsj, Int.add_zero] at hdm
                    rw [hdm] at u31
                    have hwo2 : IntKind.i64.wrap (qg (o1, o2, o3, o4) (j : Int)) = qg (o1, o2, o3, o4) (j : Int) := by rw [IntKind.wrap_i64]; omega
                    have HBn := hide HBj.out.drew
                    clear hdm
                    go_wp2_with fail
                    refine wp_still_all (by kernel_rfl) (by kernel_rfl) ?_
                    repeat ((with_reducible refine wpStill_step (fun K hK => ?_)); go_simp; (try go_bits); (with_reducible refine hK _ ?_); clear hK K)
                    (with_reducible refine wpStill_nil ?_)
                    go_wp2
                    go_roundw
                    case rel => exact ⟨j + 1, by omega, by go_num, HBn⟩
                    case measure => simp [nI]; omega
                · obtain rfl : j = 4 := by omega
                  have HBz := hide (kcall HBk.out (kcall HB17.out HBj.out))
                  go_wp2
                  go_roundw
                  case rel => exact ⟨k + 1, by omega, by go_num, HBz⟩
                  case measure => simp [nI]; omega
            · obtain rfl : k = b.length := by omega
              go_wp2_with fail
              refine (K12.out _ HW8.out).mono ?_
              rintro e w11 ⟨rfl, hb⟩
              have HBZ := hide (kcall HB5.out (kcall HB8.out (kcall HW8.out hb)))
              go_wp2
              go_ret
              exact ⟨rfl, HBZ.out⟩
  · go_wp2_with (at_builtin; refine wpList_append rfl (.tmp 144) (.tmp 145) 23 rfl rfl rfl (run_ext_tr (base := w5.heap.size) (l1 := []) (l2 := l) Tryz.underlying23 HIT.out hy0 hy1 hy2 rfl (OwnL.fresh' (by simp) (by omega)) rfl ((HT.out.bel HB5.out).alloc _) ?_ ?_ ?_) ?_)
    · simp [maxLen]; omega
    · simp; omega
    · simp
    · intro v6 w6 hO6 hg6 hat6
      have hb6 : Below w5.heap.size w5 w6 := Below.grown (kalloc (Below.refl _ _) _) hg6 (by simp) (fun k hk => by simp [Value.ownBlock] at hk; omega)
      have HO6 := hide hO6
      have HB6 := hide hb6
      clear hO6 hg6 hat6 hb6
      go_wp2_with fail
      refine (K9.out w6 HB6.out).mono ?_
      rintro e w7 ⟨A7, c7, ts, rfl, hS7, hDn, hts, hb⟩
      have HO7 := hide (HO6.out.bel hb)
      have HB7 := hide (kcall HB6.out hb)
      have HS7 := hide hS7
      have h7c := hS7.le
      have h7m := hS7.max
      have h7z := HB7.out.size
      have HDn := hide hDn
      clear hb hS7 hDn K9 HO6 HB6
      go_wp2_with (at_builtin; refine wpList_append rfl (.tmp 146) (.tmp 153) 23 rfl rfl rfl (run_ext_tr (base := w5.heap.size) (l1 := l) (l2 := ts) Tryz.underlying23 HIT.out hy0 hy1 hy2 rfl HO7.out rfl HS7.out ?_ ?_ ?_) ?_)
      · simp [maxLen]; omega
      · omega
      · omega
      · intro v8 w8 hO8 hg8 hat8
        obtain ⟨A8, c8, rfl, hS8⟩ := hO8.sl
        have HB8 := hide (Below.grown HB7.out hg8 h7z (fun g hg => (HO7.out.blk hg).1))
        have hchk := after_chk hstg hz h1 h2 HDn.out hts ⟨h4.1, by omega⟩ h6 ⟨hnb.1, HNL.out⟩
        have HQ := hide (fun (i : Nat) (y : Bu) (t : Int) hy ht => done_q (i := i) (y := y) (t := t) hstg HDn.out hy ht)
        have hLl : (l ++ ts).length ≤ 56 := by rw [List.length_append]; omega
        obtain ⟨L, hL⟩ : ∃ L, l ++ ts = L := ⟨_, rfl⟩
        have hLn : l.length + ts.length = L.length := by rw [← hL, List.length_append]
        rw [hL] at hS8 hchk HQ hLl
        have h8c := hS8.le
        have h8m := hS8.max
        have HS8 := hide hS8
        try rw [hL]
        try rw [hLn]
        clear hO8 hg8 hat8 hS8 HO7 HS7 HDn hL HB7 h7z h7c h7m HNL
        have K5b := hide (fun W (h : Below w8.heap.size w8 W) => check19 A c b A8 c8 L W (HS.out.bel (kcall HB5.out (kcall HB8.out h))) (HS8.out.bel h))
        rcases hchk with hzL | ⟨hzL, hbig⟩
        rotate_left
        · have gz : (chk 400 b L == 0) = false := by simpa using hzL
          have gz2 : (chk 400 b L != 0) = true := by simpa using hzL
          generalize chk 400 b L = z at *
          first
            | (exfalso; omega)
            | (have hd2 : decide (1048576 < x.no + 1 + 36) = true := decide_eq_true hbig
               go_wp2_with fail
               refine (K5b.out _ (Below.refl _ _)).mono ?_
               rintro e w9 ⟨rfl, hb⟩
               have HB9 := hide (kcall HB5.out (kcall HB8.out hb))
               go_wp2
               go_ret
               exact ⟨ret_bool (by first | exact hd2 | simp), HB9.out⟩)
        · have hJL := (lang_of (chk_zero' hzL).1).2
          have K7b := hide (fun W (h : Below w8.heap.size w8 W) => standing20_good A c b A8 c8 L at_ known W (HS.out.bel (kcall HB5.out (kcall HB8.out h))) (HS8.out.bel h) hI hJL hzL ha)
          unfold SlE at K7b
          rw [standing_len] at K7b
          rw [hzL] at K5b
          have K10 := hide (fun (y : Bu) hy W (h : Below w8.heap.size w8 W) => due10 (y := y) hz hI hJ hy hta htk (HS.out.bel (kcall HB5.out (kcall HB8.out h))) (HT.out.bel (kcall HB5.out (kcall HB8.out h))))
          have K10b := hide (fun (y : Bu) hy W (h : Below w8.heap.size w8 W) => due10 (y := y) hzL hI hJL hy hta htk (HS.out.bel (kcall HB5.out (kcall HB8.out h))) (HS8.out.bel h))
          have K11 := hide (fun (y : Bu) hy W (h : Below w8.heap.size w8 W) => left11 (y := y) hzL hI hJL hy hta htk hs4 (HS.out.bel (kcall HB5.out (kcall HB8.out h))) (HS8.out.bel h))
          have K12 := hide (fun W (h : Below w8.heap.size w8 W) => J.done12 at_ A5 c5 T D g ns W (HS5.out.bel (kcall HB8.out h)) (HD.out.bel (kcall HB5.out (kcall HB8.out h))) h4 hTb (by omega) (H89.out.2.trans hTl.symm))
          rw [H89.out.2, hTl] at K12
          unfold DueE at K10 K10b
          unfold LeftE at K11
          have HOK := hide (fun n => okQ_stq hcb n at_ known)
          have e30 := eq30s
          go_wp2_with fail
          refine (K5b.out _ (Below.refl _ _)).mono ?_
          rintro e w9 ⟨rfl, hb⟩
          have HB9 := hide hb
          clear hb K5b
          go_wp2_with fail
          refine (K7b.out _ HB9.out).mono ?_
          rintro e w10 ⟨A10, c10, rfl, hS10, hb⟩
          have HB10 := hide (kcall HB9.out hb)
          have HS10 := hide hS10
          have hAc := hS10.le
          rw [standing_len] at hAc
          have hAm := hS10.max
          clear hb hS10 K7b HB9
          go_wp2
          go_loopw [181] (fun i wr => ∃ k : Nat, k ≤ b.length ∧ i = .int .i64 k ∧ Hid (Below w10.heap.size w10 wr)) (fun i _ => b.length - (nI i).toNat)
          case atStart => exact ⟨0, Nat.zero_le _, rfl, Below.refl _ _⟩
          case round =>
            obtain ⟨k, hk, rfl, HBk⟩ := hrel
            obtain ⟨wo, hwo⟩ : ∃ x, x = wr := ⟨_, rfl⟩
            subst hwo
            have HW8 := hide (kcall HB10.out HBk.out)
            by_cases hlt : k < b.length
            · have kz : (k : Int) < (b.length : Int) := by omega
              have HBA := hide (kcall HB8.out HW8.out)
              have HBW := hide (kcall HB5.out HBA.out)
              obtain ⟨y, hy⟩ : ∃ y, b[k]? = some y := ⟨_, List.getElem?_eq_getElem hlt⟩
              have hym := List.mem_of_getElem? hy
              have K10 := hide (K10.out y hym)
              have K10b := hide (K10b.out y hym)
              have K11 := hide (K11.out y hym)
              have hklN : k < (standing b l at_ known).length := by rw [standing_len]; exact hlt
              have hklT : k < (standing b L at_ known).length := by rw [standing_len]; exact hlt
              have hklS : k < T.length := by omega
              obtain ⟨xn, bn, on, hxn, _, rfl, hbn, n0, n1, n2, n3, n4⟩ := Sl.bu_at (HS4.out.bel HBA.out) hklN
              rw [stand_at l at_ known hy] at hxn
              obtain rfl := Option.some.inj hxn
              obtain ⟨t, bT, oT, ht, _, rfl, hbT, _⟩ := Sl.ic_at (HS5.out.bel HBA.out) hklS
              have hQ := HQ.out k y t hy ht
              have htb := hTb t (List.mem_of_getElem? ht)
              have hqb := HOK.out y.lang
              have HNT := hide (stand_at l at_ known hy)
              have HLT := hide (stand_at L at_ known hy)
              have HTT := hide ht
              have HYY := hide hy
              rw [hQ] at K10b K11 HLT
              obtain ⟨q, hq⟩ : ∃ q, stq b l y.lang at_ known = q := ⟨_, rfl⟩
              rw [hq] at K10 K10b K11 hqb HNT HLT
              simp only [hq] at n0 n1 n2 n3 n4
              have HDM := hide (fun (j : Nat) (hj : j < 4) => due_moved q (s := (s : Int)) (k := (j : Int)) t at_ hstg ⟨by omega, by omega⟩)
              have HOB := hide (fun (j : Nat) (hj : j < 4) => show 0 ≤ qg (tq q at_) (j : Int) ∧ qg (tq q at_) (j : Int) ≤ 1103806595072 by
                rw [qg_tq q at_ ⟨by omega, by omega⟩]
                have := path_ok hqb (j : Int)
                omega)
              have hsq := okQ_get hqb (s : Int)
              unfold most at hsq
              obtain ⟨o, ho⟩ : ∃ o, tq q at_ = o := ⟨_, rfl⟩
              obtain ⟨o', ho'⟩ : ∃ o', tq (qs q (s : Int) t) at_ = o' := ⟨_, rfl⟩
              have HSE := hide (show (buC ⟨y.lang, q⟩).toArray.setIfInBounds (1 + s) (.int .i64 t) = (buC ⟨y.lang, qs q (s : Int) t⟩).toArray from buA_set y.lang q s hs4 t)
              have HGS := hide (buC_get ⟨y.lang, q⟩ s hs4)
              have HGS' := hide (buC_get' ⟨y.lang, q⟩ s hs4)
              obtain ⟨r, hr⟩ : ∃ r, qs q (s : Int) t = r := ⟨_, rfl⟩
              obtain ⟨gs, hgs⟩ : ∃ gs, qg q (s : Int) = gs := ⟨_, rfl⟩
              rw [ho'] at K10b K11 HDM
              rw [ho] at K10 HDM HOB
              rw [hr] at HSE HLT
              rw [hgs] at HDM hsq
              simp only [hgs] at HGS HGS'
              have HGO := hide (fun (j : Nat) (hj : j < 4) => qC_get o j hj)
              have HGP := hide (fun (j : Nat) (hj : j < 4) => qC_get o' j hj)
              have HPB := hide (fun (j : Nat) (hj : j < 4) => show 0 ≤ qg o' (j : Int) + 1073741824 ∧ qg o' (j : Int) ≤ 1104880336896 by
                have h1 := HDM.out j hj
                have h2 := HOB.out j hj
                rw [h1]
                split <;> omega)
              clear hq hQ hy ht hqb ho ho' hr hgs hym
              obtain ⟨q1, q2, q3, q4⟩ := q
              obtain ⟨r1, r2, r3, r4⟩ := r
              obtain ⟨o1, o2, o3, o4⟩ := o
              obtain ⟨p1, p2, p3, p4⟩ := o'
              simp only [qV, qC] at K10 K10b K11
              dsimp only at n0 n1 n2 n3 n4
              obtain ⟨wa, hwa⟩ : ∃ wa, wo.alloc (.cells #[.int .i64 y.lang, .int .i64 q1, .int .i64 q2, .int .i64 q3, .int .i64 q4] 30) = wa := ⟨_, rfl⟩
              have Xa : Blk wa wo.heap.size 30 (buC ⟨y.lang, (q1, q2, q3, q4)⟩).toArray := by rw [← hwa]; exact Blk.new _ _ _
              have hba : Below wo.heap.size wo wa := by rw [← hwa]; exact kalloc (Below.refl _ _) _
              obtain ⟨w11, hw11⟩ : ∃ w11, wa.setCell ⟨wo.heap.size, 1 + s, none⟩ (.int .i64 t) = w11 := ⟨_, rfl⟩
              have X11 : Blk w11 wo.heap.size 30 #[.int .i64 y.lang, .int .i64 r1, .int .i64 r2, .int .i64 r3, .int .i64 r4] := by rw [← hw11]; exact Xa.set (1 + s) _ HSE.out
              have hb11 : Below wo.heap.size wo w11 := by rw [← hw11]; exact hba.setCell (by dsimp only; omega) _
              have ya := Xa.cell (1 + s) HGS.out
              have za := Xa.thaw (1 + s)
              have la := Xa.lt
              obtain ⟨_, _, _, htt, _, e', hbT', t0⟩ := Sl.ic_at (HS5.out.bel (kcall HBA.out hba)) hklS
              cases e'
              obtain rfl := Option.some.inj (HTT.out.symm.trans htt)
              obtain ⟨xt, bt, ot, hxt, _, rfl, hbt, m0, m1, m2, m3, m4⟩ := Sl.bu_at (HS10.out.bel (kcall HBk.out hb11)) hklT
              rw [HLT.out] at hxt
              obtain rfl := Option.some.inj hxt
              dsimp only at m0 m1 m2 m3 m4
              have v0 := X11.cell (v := .int .i64 y.lang) 0 rfl
              have v1 := X11.cell (v := .int .i64 r1) 1 rfl
              have v2 := X11.cell (v := .int .i64 r2) 2 rfl
              have v3 := X11.cell (v := .int .i64 r3) 3 rfl
              have v4 := X11.cell (v := .int .i64 r4) 4 rfl
              have vl := X11.lt
              obtain ⟨xb, bb, ob, hxb, _, rfl, hbb, b0, _⟩ := Sl.bu_at (HS.out.bel (kcall HBW.out hb11)) hlt
              obtain rfl := Option.some.inj (HYY.out.symm.trans hxb)
              have H11 := hide (kcall HW8.out hb11).drew
              have HB11 := hide hb11.drew
              clear Xa X11 hba hb11 hxt hxb htt
              go_wp2_with fail
              refine wp_still_all (by kernel_rfl) (by kernel_rfl) ?_
              repeat ((with_reducible refine wpStill_step (fun K hK => ?_)); go_simp; (try go_bits); (with_reducible refine hK _ ?_); clear hK K)
              (with_reducible refine wpStill_nil ?_)
              go_wp2_with fail
              refine (K10.out _ H11.out).mono ?_
              rintro e w13 ⟨rfl, hb⟩
              obtain ⟨w14, hw14⟩ : ∃ w14, w13.alloc (.cells #[.int .i64 o1, .int .i64 o2, .int .i64 o3, .int .i64 o4] 28) = w14 := ⟨_, rfl⟩
              have X14 : Blk w14 w13.heap.size 28 #[.int .i64 o1, .int .i64 o2, .int .i64 o3, .int .i64 o4] := by rw [← hw14]; exact Blk.new _ _ _
              have HX14 := hide X14
              have H14 : Hid (Below w8.heap.size w8 w14) := hide (by rw [← hw14]; exact kalloc (kcall H11.out hb) _)
              have hb14 : Below wo.heap.size wo w14 := by rw [← hw14]; exact kalloc (kcall HB11.out hb) _
              have HB14 := hide hb14
              obtain ⟨_, _, _, hxb, _, e', hbb, b0, _⟩ := Sl.bu_at (HS.out.bel (kcall HBW.out hb14)) hlt
              cases e'
              obtain rfl := Option.some.inj (HYY.out.symm.trans hxb)
              clear hb hxb hb14 X14 m0 m1 m2 m3 m4 v0 v1 v2 v3 v4 vl ya za la t0 n0 n1 n2 n3 n4 hw11 hwa K10
              go_wp2_with fail
              refine (K10b.out _ H14.out).mono ?_
              rintro e w15 ⟨rfl, hb⟩
              obtain ⟨w16, hw16⟩ : ∃ w16, w15.alloc (.cells #[.int .i64 p1, .int .i64 p2, .int .i64 p3, .int .i64 p4] 28) = w16 := ⟨_, rfl⟩
              have X16 : Blk w16 w15.heap.size 28 #[.int .i64 p1, .int .i64 p2, .int .i64 p3, .int .i64 p4] := by rw [← hw16]; exact Blk.new _ _ _
              have HX16 := hide X16
              have HX14 := hide (show Blk w16 w13.heap.size 28 #[.int .i64 o1, .int .i64 o2, .int .i64 o3, .int .i64 o4] by rw [← hw16]; exact (HX14.out.bel hb).alloc _)
              have H16 : Hid (Below w8.heap.size w8 w16) := hide (by rw [← hw16]; exact kalloc (kcall H14.out hb) _)
              have hb16 : Below wo.heap.size wo w16 := by rw [← hw16]; exact kalloc (kcall HB14.out hb) _
              have HB16 := hide hb16
              obtain ⟨_, _, _, hxb, _, e', hbb, b0, _⟩ := Sl.bu_at (HS.out.bel (kcall HBW.out hb16)) hlt
              cases e'
              obtain rfl := Option.some.inj (HYY.out.symm.trans hxb)
              clear hb hxb hb16 X16 hw14 K10b
              go_wp2_with fail
              refine (K11.out _ H16.out).mono ?_
              rintro e w17 ⟨rfl, hb⟩
              have HX16 := hide (HX16.out.bel hb)
              have HX14 := hide (HX14.out.bel hb)
              have H17 := hide (kcall H16.out hb)
              have HB17 := hide (kcall HB16.out hb)
              have u31 := HX16.out.cell s (HGP.out s hs4)
              have l31 := HX16.out.lt
              have hps := HPB.out s hs4
              have hwS : IntKind.i64.wrap (qg (p1, p2, p3, p4) (s : Int) - at_) = qg (p1, p2, p3, p4) (s : Int) - at_ := by rw [IntKind.wrap_i64]; omega
              clear hb K11 hw16 b0
              go_wp2
              go_loopw [261] (fun i wr => ∃ j : Nat, j ≤ 4 ∧ i = .int .i64 j ∧ Hid (Below w17.heap.size w17 wr)) (fun i _ => 4 - (nI i).toNat)
              case atStart => exact ⟨0, by omega, rfl, Below.refl _ _⟩
              case round =>
                obtain ⟨j, hj, rfl, HBj⟩ := hrel
                clear u31 l31 hps hwS
                by_cases hj4 : j < 4
                · have jz : (j : Int) < 4 := by omega
                  have X31 := HX16.out.bel HBj.out
                  have X29 := HX14.out.bel HBj.out
                  have u31 := X31.cell j (HGP.out j hj4)
                  have l31 := X31.lt
                  have u29 := X29.cell j (HGO.out j hj4)
                  have l29 := X29.lt
                  have hdm := HDM.out j hj4
                  have hob := HOB.out j hj4
                  clear X31 X29
                  have HBr := hide (kcall HBA.out (kcall HB17.out HBj.out))
                  by_cases hsj : s ≤ j
                  · have gsj : ((s : Int) ≤ (j : Int)) := by omega
                    rw [if_pos gsj] at hdm
                    rw [hdm] at u31
                    obtain ⟨_, _, _, htt, _, e', hbT', t0⟩ := Sl.ic_at (HS5.out.bel HBr.out) hklS
                    cases e'
                    obtain rfl := Option.some.inj (HTT.out.symm.trans htt)
                    obtain ⟨xm, bm, om, hxm, _, e', hbm, cm⟩ := (HS4.out.bel HBr.out).at_ hklN
                    cases e'
                    obtain rfl := Option.some.inj (HNT.out.symm.trans hxm)
                    have n0 : wr.cell? ⟨bn, on + k * 5 + 1 + s, none⟩ = some (.int .i64 gs) := by
                      have h := cm (1 + s) _ HGS'.out
                      first
                        | (rw [show on + k * 5 + (1 + s) = on + k * 5 + 1 + s by omega] at h; exact h)
                        | (rw [show on + (k * 5 + (1 + s)) = on + k * 5 + 1 + s by omega] at h; exact h)
                    have hwt : IntKind.i64.wrap (t - gs) = t - gs := by rw [IntKind.wrap_i64]; omega
                    have hwo2 : IntKind.i64.wrap (qg (o1, o2, o3, o4) (j : Int) + (t - gs)) = qg (o1, o2, o3, o4) (j : Int) + (t - gs) := by rw [IntKind.wrap_i64]; omega
                    have HBn := hide HBj.out.drew.drew
                    have hs4z : (s : Int) < 4 := by omega
                    clear htt hxm cm hdm
                    go_wp2_with fail
                    refine wp_still_all (by kernel_rfl) (by kernel_rfl) ?_
                    repeat ((with_reducible refine wpStill_step (fun K hK => ?_)); go_simp; (try go_bits); (with_reducible refine hK _ ?_); clear hK K)
                    (with_reducible refine wpStill_nil ?_)
                    go_wp2_with fail
                    refine wp_still_all (by kernel_rfl) (by kernel_rfl) ?_
                    repeat ((with_reducible refine wpStill_step (fun K hK => ?_)); go_simp; (try go_bits); (with_reducible refine hK _ ?_); clear hK K)
                    (with_reducible refine wpStill_nil ?_)
                    go_wp2
                    go_roundw
                    case rel => exact ⟨j + 1, by omega, by go_num, HBn⟩
                    case measure => simp [nI]; omega
                  · have gsj : ¬ ((s : Int) ≤ (j : Int)) := by omega
                    rw [if_neg gsj, Int.add_zero] at hdm
                    rw [hdm] at u31
                    have hwo2 : IntKind.i64.wrap (qg (o1, o2, o3, o4) (j : Int)) = qg (o1, o2, o3, o4) (j : Int) := by rw [IntKind.wrap_i64]; omega
                    have HBn := hide HBj.out.drew
                    clear hdm
                    go_wp2_with fail
                    refine wp_still_all (by kernel_rfl) (by kernel_rfl) ?_
                    repeat ((with_reducible refine wpStill_step (fun K hK => ?_)); go_simp; (try go_bits); (with_reducible refine hK _ ?_); clear hK K)
                    (with_reducible refine wpStill_nil ?_)
                    go_wp2
                    go_roundw
                    case rel => exact ⟨j + 1, by omega, by go_num, HBn⟩
                    case measure => simp [nI]; omega
                · obtain rfl : j = 4 := by omega
                  have HBz := hide (kcall HBk.out (kcall HB17.out HBj.out))
                  go_wp2
                  go_roundw
                  case rel => exact ⟨k + 1, by omega, by go_num, HBz⟩
                  case measure => simp [nI]; omega
            · obtain rfl : k = b.length := by omega
              go_wp2_with fail
              refine (K12.out _ HW8.out).mono ?_
              rintro e w11 ⟨rfl, hb⟩
              have HBZ := hide (kcall HB5.out (kcall HB8.out (kcall HW8.out hb)))
              go_wp2
              go_ret
              exact ⟨rfl, HBZ.out⟩
end Go.Proofs.YtnngemgfochodaaGreat

/-
  ShedLater, walked.
-/
import Derived.Test.YtbkokljelopcnaaHOpen
import Derived.Test.YtbkokljelopcnaaJLess
namespace Go.Proofs.Ytbkokljelopcnaa
open Go.RowKit Go.Mine Go.Mine.Q
attribute [local go_sem] Oper.semAt_some
theorem u8_at {w : World} {A : Option Addr} {c : Nat} {l : List Int} (h : Sl u8c 1 w A c l) {k : Nat} (hk : k < l.length) : ∃ (x : Int) (b off : Nat), l[k]? = some x ∧ A = some ⟨b, off, none⟩ ∧ b < w.heap.size ∧ w.cell? ⟨b, off + k, none⟩ = some (.int .u8 x) := by
  obtain ⟨x, b, off, hx, hd, e, hb, hc⟩ := h.at_ hk
  exact ⟨x, b, off, hx, e, hb, by simpa using hc 0 _ rfl⟩
set_option maxRecDepth 100000 in
set_option maxHeartbeats 8000000 in
theorem shedLater_law (A : Option Addr) (c : Nat) (l : List Jb) (B : Option Addr) (d : Nat) (p : List Int) (C : Option Addr) (f : Nat) (q : List Int) (w : World) (hS : Sl jbC 5 w A c l) (hP : Sl u8c 1 w B d p) (hQ : Sl u8c 1 w C f q) (hpu : ∀ x ∈ p, U8 x) (hqu : ∀ x ∈ q, U8 x) :
    Calls Try.prog 12 #[.slice A l.length c, .slice B p.length d, .slice C q.length f] w fun e w' => e = .returned (.bool true) ∧ Below w.heap.size w w' := by
  have KS := hide (sane29 w)
  have KF := hide (fun W (h : Below w.heap.size w W) => few30 A c l W (hS.bel h))
  have K1 := hide (fun W (h : Below w.heap.size w W) => shed31 A c l W (hS.bel h))
  have K2 := hide (fun W (h : Below w.heap.size w W) => run22 A c l W (hS.bel h))
  unfold ShedE at K1
  unfold RunE at K2
  have HZ : errH l ≠ 0 ∨ (errH l = 0 ∧ Wt l) := by
    by_cases h : errH l = 0
    · exact .inr ⟨h, Wt.of h⟩
    · exact .inl h
  have hlc := hS.le
  have hc := hS.max
  have hpd := hP.le
  have hd := hP.max
  have hqf := hQ.le
  have hf := hQ.max
  have HS := hide hS
  have HP := hide hP
  have HQ := hide hQ
  clear hS hP hQ
  generalize hR : fewH l = r at *
  clear hR
  cases r
  · go_enter Try.func12, Try.ntmps12
    go_wp2_with fail
    refine KS.out.mono ?_
    rintro e w1 ⟨rfl, hb⟩
    have HB1 := hide hb
    clear hb KS
    go_wp2_with fail
    refine (KF.out _ HB1.out).mono ?_
    rintro e w' ⟨rfl, rfl⟩
    go_wp2
    go_ret
    exact ⟨rfl, HB1.out⟩
  by_cases hlen : p.length = l.length ∧ q.length = l.length
  rotate_left
  · rcases (show p.length ≠ l.length ∨ (p.length = l.length ∧ q.length ≠ l.length) by omega) with h1 | ⟨h1, h2⟩
    · have g1 : (p.length == l.length) = false := by simpa using h1
      have g2 : (p.length != l.length) = true := by simpa using h1
      have g3 : ((p.length : Int) == (l.length : Int)) = false := by simp; omega
      clear hlen
      go_enter Try.func12, Try.ntmps12
      go_wp2_with fail
      refine KS.out.mono ?_
      rintro e w1 ⟨rfl, hb⟩
      have HB1 := hide hb
      clear hb KS
      go_wp2_with fail
      refine (KF.out _ HB1.out).mono ?_
      rintro e w' ⟨rfl, rfl⟩
      go_wp2
      go_ret
      exact ⟨rfl, HB1.out⟩
    · have g1 : (q.length == l.length) = false := by simpa using h2
      have g2 : (q.length != l.length) = true := by simpa using h2
      have g3 : ((q.length : Int) == (l.length : Int)) = false := by simp; omega
      clear hlen
      rw [h1]
      go_enter Try.func12, Try.ntmps12
      go_wp2_with fail
      refine KS.out.mono ?_
      rintro e w1 ⟨rfl, hb⟩
      have HB1 := hide hb
      clear hb KS
      go_wp2_with fail
      refine (KF.out _ HB1.out).mono ?_
      rintro e w' ⟨rfl, rfl⟩
      go_wp2
      go_ret
      exact ⟨rfl, HB1.out⟩
  obtain ⟨hp, hq⟩ := hlen
  rcases HZ with hz | ⟨hz, hw⟩
  · simp only [if_neg hz] at K1
    have gz : (errH l == 0) = false := by simpa using hz
    have gz2 : (errH l != 0) = true := by simpa using hz
    generalize errH l = z at *
    rw [hp, hq]
    generalize runS l = s at *
    generalize runB l = rb at *
    generalize Q.chk l = ch at *
    go_enter Try.func12, Try.ntmps12
    go_wp2_with fail
    refine KS.out.mono ?_
    rintro e w1 ⟨rfl, hb⟩
    have HB1 := hide hb
    clear hb KS
    go_wp2_with fail
    refine (KF.out _ HB1.out).mono ?_
    rintro e w' ⟨rfl, rfl⟩
    go_wp2_with fail
    refine (K1.out _ HB1.out).mono ?_
    rintro e w2 ⟨A2, c2, rfl, hS2, hb⟩
    have HB2 := hide (kcall HB1.out hb)
    clear hb K1 hS2
    go_wp2_with fail
    refine (K2.out _ HB2.out).mono ?_
    rintro e w3 ⟨A3, c3, rfl, hS3, hb⟩
    have HB3 := hide (kcall HB2.out hb)
    clear hb K2 hS3
    go_wp2
    go_ret
    exact ⟨ret_bool (by simp), HB3.out⟩
  have hl10 := hw.len
  have HR := hide hw.right
  have hp0 : ∀ a ∈ p, 0 ≤ a := fun a ha => (hpu a ha).1
  have hq0 : ∀ a ∈ q, 0 ≤ a := fun a ha => (hqu a ha).1
  have HE := hide (latL_wt hw hp hq hp0 hq0).err
  have HL := hide (shed_later (latL_later hp hq hw.right hp0 hq0).1)
  have HN := hide (latL_len hp hq)
  have HG := hide (fun (k : Nat) (x : Jb) (a b : Int) h1 h2 h3 => @latL_get l p q k x a b h1 h2 h3)
  have HPU := hide hpu
  have HQU := hide hqu
  have hK : (inTime l = true ∧ shedW l + shedA l = 0 ∧ (shedN l).length = l.length) ∨ (inTime l = false ∧ shedW l + shedA l ≠ 0) := by
    cases h : inTime l
    · exact .inr ⟨rfl, fun h2 => by rw [shed_all.2 h2] at h; cases h⟩
    · exact .inl ⟨rfl, shed_all.1 h, shed_keep h⟩
  have hwn : 0 ≤ shedW l ∧ 0 ≤ shedA l := lost_nonneg _
  have hwl : shedW l + shedA l ≤ l.length := by
    have h1 := lost_len (outM l (shedM l))
    have h2 := selM_out l (shedM l)
    have e1 : shedW l = lostW (outM l (shedM l)) := rfl
    have e2 : shedA l = lostA (outM l (shedM l)) := rfl
    omega
  have hwr : IntKind.i64.wrap (shedW l + shedA l) = shedW l + shedA l := by rw [IntKind.wrap_i64]; omega
  rw [hw.chk, hw.runB] at K2
  rw [hz] at K1
  simp only [if_true] at K1
  generalize shedN l = n at *
  generalize shedW l = u at *
  generalize shedA l = v at *
  generalize runS l = s at *
  clear hw hz hpu hqu hp0 hq0
  obtain ⟨i0, hi, hz0, hz1, hz2⟩ := info_parts Try_info39
  have HI := hide hi
  clear hi
  rw [hp, hq]
  go_enter Try.func12, Try.ntmps12
  go_wp2_with fail
  refine KS.out.mono ?_
  rintro e w1 ⟨rfl, hb⟩
  have HB1 := hide hb
  clear hb KS
  go_wp2_with fail
  refine (KF.out _ HB1.out).mono ?_
  rintro e w' ⟨rfl, rfl⟩
  go_wp2_with fail
  refine (K1.out _ HB1.out).mono ?_
  rintro e w2 ⟨A2, c2, rfl, hS2, hb⟩
  have HB2 := hide (kcall HB1.out hb)
  clear hb K1 hS2
  go_wp2_with fail
  refine (K2.out _ HB2.out).mono ?_
  rintro e w3 ⟨A3, c3, rfl, hS3, hb⟩
  have HB3 := hide (kcall HB2.out hb)
  have hw3 := HB3.out.size
  clear hb K2 hS3
  have hgo : (inTime l = true ∧ (u + v == 0) = true ∧ n.length = l.length) ∨ (inTime l = false ∧ (u + v == 0) = false) := by
    rcases hK with ⟨h1, h2, h3⟩ | ⟨h1, h2⟩
    · exact .inl ⟨h1, by simpa using h2, h3⟩
    · exact .inr ⟨h1, by simpa using h2⟩
  clear hK
  rcases hgo with ⟨h1, h2, h3⟩ | ⟨h1, h2⟩
  all_goals
    rw [h1]
    try rw [h3]
    clear h1
    go_wp2
    go_loopw [14, 15] (fun v14 v15 wr => ∃ (i : Nat), i ≤ l.length ∧ v15 = .int .i64 i ∧ Hid (OwnL jbC 5 39 wr w3.heap.size v14 ((latL l p q).take i)) ∧ Hid (Below w3.heap.size w3 wr)) (fun _ i _ => l.length - (nI i).toNat)
    case atStart => exact ⟨0, Nat.zero_le _, rfl, OwnL.nil _ _ _ _ _, Below.refl _ _⟩
    case round =>
      obtain ⟨i, hi, rfl, HO, HBi⟩ := hrel
      by_cases hlt : i < l.length
      · have hlp : i < p.length := by omega
        have hlq : i < q.length := by omega
        obtain ⟨x, b, off, hx, _, rfl, hbw, d0, d1, d2, d3, d4⟩ := Sl.jb_at (HS.out.bel (kcall HB3.out HBi.out)) hlt
        obtain ⟨w5, hw5⟩ : ∃ w5, wr.alloc (.cells #[.int .i64 x.no, .int .i64 x.ready, .int .i64 x.due, .int .i64 x.need, .bool x.alt] 39) = w5 := ⟨_, rfl⟩
        have X5 : Blk w5 wr.heap.size 39 #[.int .i64 x.no, .int .i64 x.ready, .int .i64 x.due, .int .i64 x.need, .bool x.alt] := by rw [← hw5]; exact Blk.new _ _ _
        have hb5 : Below wr.heap.size wr w5 := by rw [← hw5]; exact kalloc (Below.refl _ _) _
        obtain ⟨pa, b2, off2, hpx, rfl, hbw2, e0⟩ := u8_at (HP.out.bel (kcall HB3.out (kcall HBi.out hb5))) hlp
        obtain ⟨qa, b3, off3, hqx, rfl, hbw3, f0⟩ := u8_at (HQ.out.bel (kcall HB3.out (kcall HBi.out hb5))) hlq
        have iz : (i : Int) < (l.length : Int) := by omega
        have hxr := rightJ_iff.1 (HR.out x (List.mem_of_getElem? hx))
        have hpr := HPU.out pa (List.mem_of_getElem? hpx)
        have hqr := HQU.out qa (List.mem_of_getElem? hqx)
        unfold U8 at hpr hqr
        have hwa : IntKind.i64.wrap (x.due + pa) = x.due + pa := by rw [IntKind.wrap_i64]; omega
        have hwb : IntKind.i64.wrap (x.need - qa) = x.need - qa := by rw [IntKind.wrap_i64]; omega
        have hwp : IntKind.i64.wrap pa = pa := by rw [IntKind.wrap_i64]; omega
        have hwq : IntKind.i64.wrap qa = qa := by rw [IntKind.wrap_i64]; omega
        have HNX := hide (take_of_get (HG.out i x pa qa hx hpx hqx))
        have HXi := hide hx
        have HPi := hide hpx
        have HQi := hide hqx
        have y2 := X5.cell (v := .int .i64 x.due) 2 rfl
        have z2 := X5.thaw 2
        have yl := X5.lt
        have HX5 := hide X5
        have HBx := hide hb5
        have h5z := hb5.size
        clear hx hpx hqx X5 hb5 hbw2 hbw3 f0
        go_wp2_with fail
        refine wp_still_tail 9 (by kernel_rfl) (by kernel_rfl) ?_
        simp only [List.take_succ_cons, List.take_zero, List.drop_succ_cons, List.drop_zero]
        repeat ((with_reducible refine wpStill_step (fun K hK => ?_)); go_simp; (try go_bits); (with_reducible refine hK _ ?_); clear hK K)
        (with_reducible refine wpStill_nil ?_)
        go_wp2_with fail
        refine at_world (fun w6 => Blk w6 wr.heap.size 39 #[.int .i64 x.no, .int .i64 x.ready, .int .i64 (min (x.due + pa) 1099511627776), .int .i64 x.need, .bool x.alt] ∧ Below wr.heap.size wr w6) ⟨(HX5.out.set 2 _ rfl).drew, (HBx.out.setCell (by dsimp only; omega) _).drew⟩ ?_
        clear y2 z2 yl HX5 HBx h5z hw5 w5 e0
        rintro w6 ⟨X6, hb6⟩
        obtain ⟨qa', b3', off3', hqx', e', hbw3, f0⟩ := u8_at (HQ.out.bel (kcall HB3.out (kcall HBi.out hb6))) hlq
        cases e'
        obtain rfl := Option.some.inj (hqx'.symm.trans HQi.out)
        have y3 := X6.cell (v := .int .i64 x.need) 3 rfl
        have z3 := X6.thaw 3
        have yl := X6.lt
        have HX6 := hide X6
        have HBx := hide hb6
        have h6z := hb6.size
        clear hqx' X6 hb6
        go_wp2_with fail
        refine wp_still_tail 9 (by kernel_rfl) (by kernel_rfl) ?_
        simp only [List.take_succ_cons, List.take_zero, List.drop_succ_cons, List.drop_zero]
        repeat ((with_reducible refine wpStill_step (fun K hK => ?_)); go_simp; (try go_bits); (with_reducible refine hK _ ?_); clear hK K)
        (with_reducible refine wpStill_nil ?_)
        obtain ⟨w7, hw7⟩ : ∃ w7, (w6.setCell ⟨wr.heap.size, 3, none⟩ (.int .i64 (max (x.need - qa') 1))).drew = w7 := ⟨_, rfl⟩
        have X7 : Blk w7 wr.heap.size 39 #[.int .i64 x.no, .int .i64 x.ready, .int .i64 (min (x.due + pa) 1099511627776), .int .i64 (max (x.need - qa') 1), .bool x.alt] := by rw [← hw7]; exact (HX6.out.set 3 _ rfl).drew
        have hb7 : Below wr.heap.size wr w7 := by rw [← hw7]; exact (HBx.out.setCell (by dsimp only; omega) _).drew
        clear HX6 HBx f0
        have c0 := X7.cell (v := .int .i64 x.no) 0 rfl
        have c1 := X7.cell (v := .int .i64 x.ready) 1 rfl
        have c2 := X7.cell (v := .int .i64 (min (x.due + pa) 1099511627776)) 2 rfl
        have c3 := X7.cell (v := .int .i64 (max (x.need - qa') 1)) 3 rfl
        have c4 := X7.cell (v := .bool x.alt) 4 rfl
        have cl := X7.lt
        have HO7 := hide (HO.out.bel hb7)
        have HB7 := hide (kcall HBi.out hb7)
        have h7z := hb7.size
        have hBs := HBi.out.size
        have hml : ((latL l p q).take i).length = i := by rw [List.length_take, HN.out]; omega
        have HML := hide hml
        clear X7 hb7 HO HBi hml HXi HPi HQi h6z
        go_wp2_with (at_builtin; refine wpList_append rfl (.tmp 116) (.tmp 118) 22 rfl rfl rfl (run_extend (f := jbC) (base := w3.heap.size) (l1 := (latL l p q).take i) (l2 := [lat x pa qa']) Try.underlying22 HI.out hz0 hz1 hz2 rfl (by decide) (HO7.out.alloc _) (Sl.one (Blk.new _ _ _) rfl rfl (by decide) (by decide)) (jb_one _) ?_ ?_ ?_) ?_)
        · have := HML.out; simp only [List.length_singleton]; unfold maxLen; omega
        · have := HML.out; simp only [List.length_singleton]; omega
        · simp; omega
        · intro v9 w9 hO9 hg9 hat9
          rw [← HNX.out] at hO9
          have HO9 := hide hO9
          have HB9 : Hid (Below w3.heap.size w3 w9) := hide (Below.grown (kalloc HB7.out _) hg9 (by simp; omega) (fun g hg => (HO7.out.blk hg).1))
          clear hO9 hg9 hat9
          go_wp2
          go_roundw
          case rel => exact ⟨i + 1, by omega, by go_num, HO9, HB9⟩
          case measure => simp [nI]; omega
      · obtain rfl : i = l.length := by omega
        rw [List.take_of_length_le (by rw [HN.out]; omega)] at HO
        obtain ⟨A7, c7, rfl, hS7⟩ := HO.out.sl
        have h7c := hS7.le
        have h7m := hS7.max
        have K7 := hide (shed31 A7 c7 _ wr hS7)
        unfold ShedE at K7
        rw [HE.out] at K7
        simp only [if_true] at K7
        have hlt := HL.out
        have HB4 := hide (kcall HB3.out HBi.out)
        clear HO hS7 HE HL HN HG HBi
        generalize latL l p q = l7 at *
        generalize shedW l7 = u7 at *
        generalize shedA l7 = v7 at *
        go_wp2_with fail
        refine K7.out.mono ?_
        rintro e w8 ⟨A8, c8, rfl, hS8, hb⟩
        have HB8 := hide (kcall HB4.out hb)
        clear hb K7 hS8
        rcases hlt with h5 | ⟨rfl, h5⟩
        · have g1 : decide (u7 < u) = true := decide_eq_true h5
          go_wp2
          go_ret
          exact ⟨ret_bool (by simp), HB8.out⟩
        · have g0 : decide (u7 < u7) = false := by simp
          have g1 : decide (v7 ≤ v) = true := decide_eq_true h5
          go_wp2
          go_ret
          exact ⟨ret_bool (by simp), HB8.out⟩
end Go.Proofs.Ytbkokljelopcnaa

/-
  visits: Check; until.
  visits, the reference: within, formed, state, fits.
  visits, the reference: fits.
  visits, the reference: Check, sees, Sees; the program's Sees.
  visits: what a viewer sees: the reference's sees, Sees; the program's Sees.
-/
import Derived.Test.YtchdoamoeccjkaaVM2
import Derived.Test.YtchdoamoeccjkaaBase2
import Derived.Test.YtchdoamoeccjkaaVM1
namespace Go.Proofs.Ytchdoamoeccjkaa
open Go.RowKit Go.Mine Go.Mine.V
attribute [local go_sem] Oper.semAt_some

theorem Sl.vi_at {w : World} {A : Option Addr} {c : Nat} {l : List Vi} (h : Sl viC 4 w A c l) {k : Nat} (hk : k < l.length) : ∃ (r : Vi) (b off : Nat), l[k]? = some r ∧ l.drop k = r :: l.drop (k + 1) ∧ A = some ⟨b, off, none⟩ ∧ b < w.heap.size ∧
    w.cell? ⟨b, off + k * 4, none⟩ = some (.int .i64 r.t) ∧ w.cell? ⟨b, off + k * 4 + 1, none⟩ = some (.int .i64 r.who) ∧ w.cell? ⟨b, off + k * 4 + 2, none⟩ = some (.int .i64 r.k) ∧ w.cell? ⟨b, off + k * 4 + 3, none⟩ = some (.int .i64 r.g) := by
  obtain ⟨x, b, off, hx, hd, e, hb, hc⟩ := h.at_ hk
  exact ⟨x, b, off, hx, hd, e, hb, by simpa using hc 0 _ rfl, hc 1 _ rfl, hc 2 _ rfl, hc 3 _ rfl⟩
/-- a change of a map that is new keeps what is older -/
theorem below_grown {w0 w w' : World} {b : Nat} (h : Below w0.heap.size w0 w) (g : w.grownBy w' (some b)) (hb : w0.heap.size ≤ b) : Below w0.heap.size w0 w' :=
  Below.grown h g h.size (fun k hk => by cases hk; exact hb)
set_option maxRecDepth 100000 in
set_option maxHeartbeats 2000000 in
theorem Check_any (A : Option Addr) (c : Nat) (l : List Vi) (w : World) (hS : Sl viC 4 w A c l) (hI : ∀ x ∈ l, ViS x) :
    Calls Try.prog 18 #[.slice A l.length c] w fun e w' => e = .returned (.int .i64 (chk l)) ∧ Below w.heap.size w w' := by
  have hlc := hS.le
  have hc := hS.max
  have E := hide (show chk l = if 4096 < l.length then 2 else if chkGo nobody 0 l = true then 0 else 520 by unfold chk; rfl)
  generalize chk l = R at E ⊢
  by_cases h4 : 4096 < l.length
  · obtain rfl : R = 2 := E.out.trans (if_pos h4)
    have g4 : decide ((4096 : Int) < l.length) = true := by simp; omega
    clear E hS
    go_enter Try.func18, Try.ntmps18
    go_wp2
    go_ret
    exact ⟨rfl, Below.refl _ _⟩
  · have g4 : decide ((4096 : Int) < l.length) = false := by simp; omega
    have E := hide (E.out.trans (if_neg h4))
    have M0 := hide (MapI.made w Try.prog 3)
    have HS := hide hS
    clear hS
    have hmm := @run_makeMap Try.prog
    go_enter Try.func18, Try.ntmps18
    go_wp2
    clear hmm
    go_loopw [4, 13] (fun v i wr => ∃ (k : Nat) (a : Aud) (q : Int), k ≤ l.length ∧ i = .int .i64 k ∧ v = .int .i64 q ∧ chkGo nobody 0 l = chkGo a q (l.drop k) ∧ MapI Try.prog 3 wr w.heap.size k (audM a) ∧ Below w.heap.size w wr) (fun _ i _ => l.length - (nI i).toNat)
    case atStart => exact ⟨0, nobody, 0, Nat.zero_le _, rfl, rfl, rfl, M0.out, kalloc (Below.refl _ _) _⟩
    case round =>
      obtain ⟨k, a, q, hk, rfl, rfl, hq, hM, hbr⟩ := hrel
      by_cases hlt : k < l.length
      · obtain ⟨x, bb, off, hx, hdr, rfl, hbw, c0, c1, c2, c3⟩ := Sl.vi_at (HS.out.bel hbr) hlt
        rw [hdr] at hq
        have hxi := hI x (List.mem_of_getElem? hx)
        have KP := hide (perform_any x a w.heap.size k _ hxi (hM.alloc (.cells #[.int .i64 x.t, .int .i64 x.who, .int .i64 x.k, .int .i64 x.g] 40)) (by unfold maxLen; omega))
        have hml := hM.lt
        have hne : some wr.heap.size ≠ some w.heap.size := fun h => by have := Option.some.inj h; omega
        have xB := Blk.new wr #[.int .i64 x.t, .int .i64 x.who, .int .i64 x.k, .int .i64 x.g] 40
        have xC := xB.cell (v := .int .i64 x.t) 0 rfl
        have HB := hide (kalloc hbr (.cells #[.int .i64 x.t, .int .i64 x.who, .int .i64 x.k, .int .i64 x.g] 40))
        have EQ := hide (hq.trans (show chkGo a q (x :: l.drop (k + 1)) = (decide (q ≤ x.t) && okV a x && chkGo (perf a x) x.t (l.drop (k + 1))) from rfl))
        generalize perf a x = a' at *
        generalize okV a x = v at *
        obtain ⟨t, who, kk, g⟩ := x
        simp only [viV] at *
        clear hq hdr hx hM hbr hxi
        by_cases hlast : t < q
        · obtain rfl : R = 520 := by rw [E.out, EQ.out]; simp [show ¬ q ≤ t by omega]
          have gl : decide (t < q) = true := by simpa using hlast
          go_wp2
          go_ret
          exact ⟨rfl, HB.out⟩
        · have gl : decide (t < q) = false := by simpa using hlast
          have EQ := hide (EQ.out.trans (by rw [show decide (q ≤ t) = true by simp; omega, Bool.true_and]))
          go_wp2_with fail
          refine KP.out.mono ?_
          rintro e w' ⟨rfl, hM, hg⟩
          have HB2 := hide (below_grown HB.out hg (Nat.le_refl _))
          have HM := hide hM
          have x0 := gcell hg xB.lt hne xC
          clear hM hg HB KP xB xC hne hml c0 c1 c2 c3
          cases v
          · obtain rfl : R = 520 := by rw [E.out, EQ.out]; simp
            go_wp2
            go_ret
            exact ⟨rfl, HB2.out⟩
          · go_wp2
            go_roundw
            case rel => exact ⟨k + 1, a', t, by omega, by go_num, rfl, by rw [EQ.out]; simp, HM.out, HB2.out⟩
            case measure => simp [nI]; omega
      · rw [List.drop_of_length_le (by omega)] at hq
        obtain rfl : R = 0 := by rw [E.out, hq]; rfl
        clear hq HS
        have HB := hide hbr
        go_wp2
        go_ret
        exact ⟨rfl, HB.out⟩

/-- until: who has joined up to a time -/
theorem until_any (A : Option Addr) (c : Nat) (l : List Vi) (t : Int) (w : World) (hS : Sl viC 4 w A c l) (hI : ∀ x ∈ l, ViS x) (hl : l.length ≤ 1000000) :
    Calls Try.prog 48 #[.slice A l.length c, .int .i64 t] w fun e w' => e = .returned (.map (some w.heap.size)) ∧ MapI Try.prog 3 w' w.heap.size l.length (audM (upTo nobody t l)) ∧ Below w.heap.size w w' := by
  have hlc := hS.le
  have hc := hS.max
  have M0 := hide (MapI.made w Try.prog 3)
  have HS := hide hS
  clear hS
  have hmm := @run_makeMap Try.prog
  go_enter Try.func48, Try.ntmps48
  go_wp2
  clear hmm
  go_loopw [11] (fun i wr => ∃ (k : Nat) (a : Aud), k ≤ l.length ∧ i = .int .i64 k ∧ upTo nobody t l = upTo a t (l.drop k) ∧ MapI Try.prog 3 wr w.heap.size k (audM a) ∧ Below w.heap.size w wr) (fun i _ => l.length - (nI i).toNat)
  case atStart => exact ⟨0, nobody, Nat.zero_le _, rfl, rfl, M0.out, kalloc (Below.refl _ _) _⟩
  case round =>
    obtain ⟨k, a, hk, rfl, hq, hM, hbr⟩ := hrel
    by_cases hlt : k < l.length
    · obtain ⟨x, bb, off, hx, hdr, rfl, hbw, c0, c1, c2, c3⟩ := Sl.vi_at (HS.out.bel hbr) hlt
      rw [hdr] at hq
      have hxi := hI x (List.mem_of_getElem? hx)
      have KP := hide (perform_any x a w.heap.size k _ hxi (hM.alloc (.cells #[.int .i64 x.t, .int .i64 x.who, .int .i64 x.k, .int .i64 x.g] 40)) (by unfold maxLen; omega))
      have HB := hide (kalloc hbr (.cells #[.int .i64 x.t, .int .i64 x.who, .int .i64 x.k, .int .i64 x.g] 40))
      have EQ := hide (hq.trans (show upTo a t (x :: l.drop (k + 1)) = (if t < x.t then a else upTo (perf a x) t (l.drop (k + 1))) from rfl))
      generalize perf a x = a' at *
      generalize okV a x = v at *
      obtain ⟨tx, who, kk, g⟩ := x
      simp only [viV] at *
      have HM := hide (hM.alloc (.cells #[.int .i64 tx, .int .i64 who, .int .i64 kk, .int .i64 g] 40))
      clear hq hdr hx hM hbr hxi
      by_cases hlast : t < tx
      · have gl : decide (t < tx) = true := by simpa using hlast
        have EQ := hide (EQ.out.trans (if_pos hlast))
        go_wp2
        go_ret
        exact ⟨rfl, by rw [EQ.out]; exact HM.out.mono (by omega), HB.out⟩
      · have gl : decide (t < tx) = false := by simpa using hlast
        have EQ := hide (EQ.out.trans (if_neg hlast))
        go_wp2_with fail
        refine KP.out.mono ?_
        rintro e w' ⟨rfl, hM, hg⟩
        have HB2 := hide (below_grown HB.out hg (Nat.le_refl _))
        have HM2 := hide hM
        clear hM hg HB KP HM c0 c1 c2 c3
        go_wp2
        go_roundw
        case rel => exact ⟨k + 1, a', by omega, by go_num, EQ.out, HM2.out, HB2.out⟩
        case measure => simp [nI]; omega
    · rw [List.drop_of_length_le (by omega)] at hq
      have HQ := hide (hq.trans (show upTo a t [] = a from rfl))
      have HB := hide hbr
      have HM := hide hM
      clear hq HS hM hbr
      obtain rfl : k = l.length := by omega
      go_wp2
      go_ret
      exact ⟨rfl, by rw [HQ.out]; exact HM.out, HB.out⟩
end Go.Proofs.Ytchdoamoeccjkaa
namespace Go.Proofs.Ytchdoamoeccjkaa
open Go.RowKit Go.Mine Go.Mine.V
attribute [local go_sem] Oper.semAt_some

theorem Sl.take_ {α : Type} {f : α → List Value} {sz : Nat} {w : World} {A : Option Addr} {c : Nat} {l : List α} (h : Sl f sz w A c l) (k : Nat) : Sl f sz w A c (l.take k) := by
  refine ⟨Nat.le_trans (List.length_take_le' _ _) h.le, h.max, fun x hx => h.size x (List.mem_of_mem_take hx), fun hn => ?_⟩
  obtain ⟨b, off, e, hb, hc⟩ := h.cells (by rintro rfl; simp at hn)
  refine ⟨b, off, e, hb, fun i v hv => hc i v ?_⟩
  have e1 : l.flatMap f = (l.take k).flatMap f ++ (l.drop k).flatMap f := by rw [← List.flatMap_append, List.take_append_drop]
  rw [e1, List.getElem?_append_left (List.getElem?_eq_some_iff.1 hv).1]; exact hv
theorem within49_any (n lim : Int) (w : World) : Calls Try.prog 49 #[.int .i64 n, .int .i64 lim] w fun e w' => e = .returned (.bool (inB n lim)) ∧ w = w' := by
  have H := hide (inB_iff (n := n) (lim := lim))
  generalize inB n lim = r at H ⊢
  by_cases h1 : 0 ≤ n
  all_goals
    go_enter Try.func49, Try.ntmps49
    go_wp2
    go_ret
    exact ⟨ret_bool (by rw [Bool.eq_iff_iff]; rw [H.out]; first | omega | (simp; done) | (simp; omega)), rfl⟩
theorem within49_is {n lim : Int} {r : Bool} (h : inB n lim = r) (w : World) : Calls Try.prog 49 #[.int .i64 n, .int .i64 lim] w fun e w' => e = .returned (.bool r) ∧ w = w' := h ▸ within49_any n lim w
set_option maxHeartbeats 2000000 in
theorem formed79_any (x : Vi) (w : World) : Calls Try.prog 79 #[viV x] w fun e w' => e = .returned (.bool (formedR x)) ∧ Below w.heap.size w w' := by
  obtain ⟨t, who, k, g⟩ := x
  have H : Hid (formedR ⟨t, who, k, g⟩ = (inB t 1099511627776 && inB who 100000 && decide (1 ≤ k) && decide (k ≤ 4) && inB g 32 && (decide (k = 1) || decide (k = 2) || decide (g = 0)))) := hide rfl
  simp only [viV]
  generalize formedR ⟨t, who, k, g⟩ = r at H ⊢
  rcases Bool.eq_false_or_eq_true (inB t 1099511627776) with h1 | h1
  · rcases Bool.eq_false_or_eq_true (inB who 100000) with h2 | h2
    · by_cases h3 : k < 1
      · have g3 : decide (k < 1) = true := by simpa using h3
        obtain rfl : r = false := by rw [H.out]; simp [show ¬ 1 ≤ k by omega]
        clear H
        go_enter Try.func79, Try.ntmps79
        go_wp2_with (first | (go_at_call 49; with_reducible refine (within49_is h1 _).mono ?_; rintro e w' ⟨rfl, rfl⟩) | (go_at_call 49; with_reducible refine (within49_is h2 _).mono ?_; rintro e w' ⟨rfl, rfl⟩) | (go_at_call 49; with_reducible refine (within49_is h5 _).mono ?_; rintro e w' ⟨rfl, rfl⟩))
        go_ret
        exact ⟨rfl, kalloc (Below.refl _ _) _⟩
      · have g3 : decide (k < 1) = false := by simpa using h3
        by_cases h4 : 4 < k
        · have g4 : decide (4 < k) = true := by simpa using h4
          obtain rfl : r = false := by rw [H.out]; simp [show ¬ k ≤ 4 by omega]
          clear H
          go_enter Try.func79, Try.ntmps79
          go_wp2_with (first | (go_at_call 49; with_reducible refine (within49_is h1 _).mono ?_; rintro e w' ⟨rfl, rfl⟩) | (go_at_call 49; with_reducible refine (within49_is h2 _).mono ?_; rintro e w' ⟨rfl, rfl⟩) | (go_at_call 49; with_reducible refine (within49_is h5 _).mono ?_; rintro e w' ⟨rfl, rfl⟩))
          go_ret
          exact ⟨rfl, kalloc (Below.refl _ _) _⟩
        · have g4 : decide (4 < k) = false := by simpa using h4
          have H := hide (H.out.trans (by rw [h1, h2, show decide (1 ≤ k) = true by simp; omega, show decide (k ≤ 4) = true by simp; omega, Bool.true_and, Bool.true_and, Bool.true_and]))
          rcases Bool.eq_false_or_eq_true (inB g 32) with h5 | h5
          · by_cases k1 : k = 1
            · obtain rfl : r = true := by rw [H.out, h5, k1]; simp
              have gk : (k == 1) = true := by simp [k1]
              clear H k1
              go_enter Try.func79, Try.ntmps79
              go_wp2_with (first | (go_at_call 49; with_reducible refine (within49_is h1 _).mono ?_; rintro e w' ⟨rfl, rfl⟩) | (go_at_call 49; with_reducible refine (within49_is h2 _).mono ?_; rintro e w' ⟨rfl, rfl⟩) | (go_at_call 49; with_reducible refine (within49_is h5 _).mono ?_; rintro e w' ⟨rfl, rfl⟩))
              go_ret
              exact ⟨rfl, kalloc (Below.refl _ _) _⟩
            · have gk : (k == 1) = false := by simp [k1]
              by_cases k2 : k = 2
              · obtain rfl : r = true := by rw [H.out, h5, k2]; simp
                have gk2 : (k == 2) = true := by simp [k2]
                clear H k1 k2
                go_enter Try.func79, Try.ntmps79
                go_wp2_with (first | (go_at_call 49; with_reducible refine (within49_is h1 _).mono ?_; rintro e w' ⟨rfl, rfl⟩) | (go_at_call 49; with_reducible refine (within49_is h2 _).mono ?_; rintro e w' ⟨rfl, rfl⟩) | (go_at_call 49; with_reducible refine (within49_is h5 _).mono ?_; rintro e w' ⟨rfl, rfl⟩))
                go_ret
                exact ⟨rfl, kalloc (Below.refl _ _) _⟩
              · have gk2 : (k == 2) = false := by simp [k2]
                have H := hide (show r = (g == 0) by rw [H.out, h5]; simp [k1, k2]; rw [Bool.eq_iff_iff]; simp)
                clear k1 k2
                go_enter Try.func79, Try.ntmps79
                go_wp2_with (first | (go_at_call 49; with_reducible refine (within49_is h1 _).mono ?_; rintro e w' ⟨rfl, rfl⟩) | (go_at_call 49; with_reducible refine (within49_is h2 _).mono ?_; rintro e w' ⟨rfl, rfl⟩) | (go_at_call 49; with_reducible refine (within49_is h5 _).mono ?_; rintro e w' ⟨rfl, rfl⟩))
                go_ret
                exact ⟨ret_bool H.out.symm, kalloc (Below.refl _ _) _⟩
          · obtain rfl : r = false := by rw [H.out, h5]; simp
            clear H
            go_enter Try.func79, Try.ntmps79
            go_wp2_with (first | (go_at_call 49; with_reducible refine (within49_is h1 _).mono ?_; rintro e w' ⟨rfl, rfl⟩) | (go_at_call 49; with_reducible refine (within49_is h2 _).mono ?_; rintro e w' ⟨rfl, rfl⟩) | (go_at_call 49; with_reducible refine (within49_is h5 _).mono ?_; rintro e w' ⟨rfl, rfl⟩))
            go_ret
            exact ⟨rfl, kalloc (Below.refl _ _) _⟩
    · obtain rfl : r = false := by rw [H.out, h1, h2]; simp
      clear H
      go_enter Try.func79, Try.ntmps79
      go_wp2_with (first | (go_at_call 49; with_reducible refine (within49_is h1 _).mono ?_; rintro e w' ⟨rfl, rfl⟩) | (go_at_call 49; with_reducible refine (within49_is h2 _).mono ?_; rintro e w' ⟨rfl, rfl⟩) | (go_at_call 49; with_reducible refine (within49_is h5 _).mono ?_; rintro e w' ⟨rfl, rfl⟩))
      go_ret
      exact ⟨rfl, kalloc (Below.refl _ _) _⟩
  · obtain rfl : r = false := by rw [H.out, h1]; simp
    clear H
    go_enter Try.func79, Try.ntmps79
    go_wp2_with (first | (go_at_call 49; with_reducible refine (within49_is h1 _).mono ?_; rintro e w' ⟨rfl, rfl⟩) | (go_at_call 49; with_reducible refine (within49_is h2 _).mono ?_; rintro e w' ⟨rfl, rfl⟩) | (go_at_call 49; with_reducible refine (within49_is h5 _).mono ?_; rintro e w' ⟨rfl, rfl⟩))
    go_ret
    exact ⟨rfl, kalloc (Below.refl _ _) _⟩
set_option maxHeartbeats 4000000 in
theorem state77_any (A : Option Addr) (c : Nat) (l : List Vi) (who : Int) (w : World) (hS : Sl viC 4 w A c l) :
    Calls Try.prog 77 #[.slice A l.length c, .int .i64 who] w fun e w' => e = .returned (.tuple #[.bool (refState l who).1, .bool (refState l who).2.1, .int .i64 (refState l who).2.2]) ∧ w = w' := by
  have hlc := hS.le
  have hc := hS.max
  obtain ⟨R, HR⟩ : ∃ R, refState l who = R := ⟨_, rfl⟩
  rw [HR]
  have HR := hide HR
  go_enter Try.func77, Try.ntmps77
  go_wp2
  go_loop [7, 8, 9, 10] (fun j o g i => ∃ k : Nat, k ≤ l.length ∧ i = .int .i64 k ∧ j = .bool (refState (l.take k) who).1 ∧ o = .bool (refState (l.take k) who).2.1 ∧ g = .int .i64 (refState (l.take k) who).2.2) (fun _ _ _ i => l.length - (nI i).toNat)
  case atStart => exact ⟨0, Nat.zero_le _, rfl, rfl, rfl, rfl⟩
  case round =>
    obtain ⟨k, hk, rfl, rfl, rfl, rfl⟩ := hrel
    by_cases hlt : k < l.length
    · obtain ⟨x, bb, off, hx, hdr, rfl, hbw, c0, c1, c2, c3⟩ := Sl.vi_at hS hlt
      have e1 := hide (show refState (l.take (k + 1)) who = refStep who (refState (l.take k) who) x by rw [take_of_get hx, refState_snoc])
      generalize refState (l.take k) who = s at e1 ⊢
      obtain ⟨j, o, g⟩ := s
      obtain ⟨xt, xw, xk, xg⟩ := x
      simp only at c0 c1 c2 c3 ⊢
      clear hS hx hdr
      by_cases hw : xw = who
      · have g1 : (xw != who) = false := by simp [hw]
        by_cases k1 : xk = 1
        · have g2 : (xk == 1) = true := by simp [k1]
          have e2 := hide (e1.out.trans (show _ = (true, true, xg) by simp [refStep, hw, k1]))
          clear e1 hw k1
          go_wp2
          go_round
          case rel => exact ⟨k + 1, by omega, by go_num, by rw [e2.out], by rw [e2.out], by rw [e2.out]⟩
          case measure => simp [nI]; omega
        · have g2 : (xk == 1) = false := by simp [k1]
          by_cases k2 : xk = 2
          · have g3 : (xk == 2) = true := by simp [k2]
            have e2 := hide (e1.out.trans (show _ = (j, o, xg) by simp [refStep, hw, k2]))
            clear e1 hw k1 k2
            go_wp2
            go_round
            case rel => exact ⟨k + 1, by omega, by go_num, by rw [e2.out], by rw [e2.out], by rw [e2.out]⟩
            case measure => simp [nI]; omega
          · have g3 : (xk == 2) = false := by simp [k2]
            by_cases k3 : xk = 3
            · have g4 : (xk == 3) = true := by simp [k3]
              have e2 := hide (e1.out.trans (show _ = (j, false, g) by simp [refStep, hw, k3]))
              clear e1 hw k1 k2 k3
              go_wp2
              go_round
              case rel => exact ⟨k + 1, by omega, by go_num, by rw [e2.out], by rw [e2.out], by rw [e2.out]⟩
              case measure => simp [nI]; omega
            · have g4 : (xk == 3) = false := by simp [k3]
              by_cases k4 : xk = 4
              · have g5 : (xk == 4) = true := by simp [k4]
                have e2 := hide (e1.out.trans (show _ = (j, true, g) by simp [refStep, hw, k4]))
                clear e1 hw k1 k2 k3 k4
                go_wp2
                go_round
                case rel => exact ⟨k + 1, by omega, by go_num, by rw [e2.out], by rw [e2.out], by rw [e2.out]⟩
                case measure => simp [nI]; omega
              · have g5 : (xk == 4) = false := by simp [k4]
                have e2 := hide (e1.out.trans (show _ = (j, o, g) by simp [refStep, hw, k1, k2, k3, k4]))
                clear e1 hw k1 k2 k3 k4
                go_wp2
                go_round
                case rel => exact ⟨k + 1, by omega, by go_num, by rw [e2.out], by rw [e2.out], by rw [e2.out]⟩
                case measure => simp [nI]; omega
      · have g1 : (xw != who) = true := by simp [hw]
        have e2 := hide (e1.out.trans (show _ = (j, o, g) by simp [refStep, hw]))
        clear e1 hw
        go_wp2
        go_round
        case rel => exact ⟨k + 1, by omega, by go_num, by rw [e2.out], by rw [e2.out], by rw [e2.out]⟩
        case measure => simp [nI]; omega
    · rw [List.take_of_length_le (by omega), HR.out]
      obtain ⟨j, o, g⟩ := R
      clear HR hS
      simp only
      go_wp2
      exact bodyPost_ret (v := .tuple #[.bool j, .bool o, .int .i64 g]) (by simp [results, Try.results77, go_sem]) rfl ⟨rfl, rfl⟩
end Go.Proofs.Ytchdoamoeccjkaa
namespace Go.Proofs.Ytchdoamoeccjkaa
open Go.RowKit Go.Mine Go.Mine.V
attribute [local go_sem] Oper.semAt_some

theorem lastT_get {l : List Vi} {x : Vi} (h : l[l.length - 1]? = some x) : lastT l = x.t := by
  cases l with
  | nil => simp at h
  | cons y l =>
    show ((y :: l).getLast?.map fun x => x.t).getD 0 = x.t
    rw [List.getLast?_eq_getElem?, h]; rfl
set_option maxRecDepth 100000 in
set_option maxHeartbeats 4000000 in
theorem fits52_any (A : Option Addr) (c : Nat) (l : List Vi) (x : Vi) (w : World) (hS : Sl viC 4 w A c l) :
    Calls Try.prog 52 #[.slice A l.length c, viV x] w fun e w' => e = .returned (.bool (fitsR l x)) ∧ Below w.heap.size w w' := by
  have hlc := hS.le
  have hc := hS.max
  have KF := hide (fun w => formed79_any x w)
  have HE := hide (show fitsR l x = (formedR x && !(decide (l ≠ []) && decide (x.t < lastT l)) && fitsK (refState l x.who) x.k) from rfl)
  have KS := hide (fun w (hS : Sl viC 4 w A c l) => state77_any A c l x.who w hS)
  have HK := hide (show fitsK (refState l x.who) x.k = if x.k = 1 then !(refState l x.who).1 else if x.k = 2 then (refState l x.who).1 else if x.k = 3 then (refState l x.who).2.1 else (refState l x.who).1 && !(refState l x.who).2.1 from rfl)
  generalize fitsR l x = R at HE ⊢
  generalize formedR x = F at HE KF
  generalize fitsK (refState l x.who) x.k = S at HE HK
  generalize refState l x.who = st at KS HK
  obtain ⟨j, o, g9⟩ := st
  obtain ⟨t, who, k, g⟩ := x
  simp only [viV] at *
  have B := Blk.new w #[.int .i64 t, .int .i64 who, .int .i64 k, .int .i64 g] 40
  have K := kalloc (Below.refl w.heap.size w) (.cells #[.int .i64 t, .int .i64 who, .int .i64 k, .int .i64 g] 40)
  have S1 := hS.alloc (.cells #[.int .i64 t, .int .i64 who, .int .i64 k, .int .i64 g] 40)
  have hlt := B.lt
  have c0 := B.cell 0 rfl
  have c1 := B.cell 1 rfl
  have c2 := B.cell 2 rfl
  have c3 := B.cell 3 rfl
  cases F
  · obtain rfl : R = false := by rw [HE.out]; simp
    clear HE HK KS S1 hS
    go_enter Try.func52, Try.ntmps52
    go_wp2_with fail
    have n0 := BW.get hlt c0
    have n1 := BW.get hlt c1
    have n2 := BW.get hlt c2
    have n3 := BW.get hlt c3
    (refine wp_quiet_below (by kernel_rfl) (by kernel_rfl) ?_; (repeat (go_big_quiet_step ((go_at_call 79; exact quiet_below (KF.out _))))); refine wpQuiet_nil ?_; rintro _ ⟨z, rfl⟩)
    (clear n0 n1 n2 n3 c0 c1 c2 c3 hlt KF)
    go_wp2
    go_ret
    exact ⟨rfl, K.trans (z.below.mono (by simp))⟩
  · have hcase : (l = [] ∧ R = S) ∨ (∃ y bb off, l ≠ [] ∧ A = some ⟨bb, off, none⟩ ∧ bb < w.heap.size ∧ w.cell? ⟨bb, off + (l.length - 1) * 4, none⟩ = some (.int .i64 y) ∧ R = (!decide (t < y) && S)) := by
      rcases Classical.em (l = []) with h | h
      · left; refine ⟨h, ?_⟩; rw [HE.out, h]; simp
      · right
        have hp := List.length_pos_iff.2 h
        obtain ⟨y, bb, off, hx, _, hA, hb, c0, _⟩ := Sl.vi_at hS (k := l.length - 1) (by omega)
        refine ⟨y.t, bb, off, h, hA, hb, c0, ?_⟩
        rw [HE.out, lastT_get hx]; simp [h]
    clear HE
    rcases hcase with ⟨rfl, rfl⟩ | ⟨y, bb, off, hne, rfl, hbb, cy, hR⟩
    · simp only [List.length_nil] at *
      go_enter Try.func52, Try.ntmps52
      go_wp2_with fail
      have n0 := BW.get hlt c0
      have n1 := BW.get hlt c1
      have n2 := BW.get hlt c2
      have n3 := BW.get hlt c3
      (refine wp_quiet_below (by kernel_rfl) (by kernel_rfl) ?_; (repeat (go_big_quiet_step ((go_at_call 79; exact quiet_below (KF.out _))))); refine wpQuiet_nil ?_; rintro _ ⟨z, rfl⟩)
      have S2 := hide (S1.bel z.below)
      have d1 := n1 z
      have d2 := n2 z
      have hz := hide (K.trans (z.below.mono (by simp)))
      clear n0 n1 n2 n3 c0 c1 c2 c3 hlt KF B K S1 hS
      generalize z.world = W1 at *
      clear z
      by_cases k1 : k = 1
      · have g1 : (k == 1) = true := by simp [k1]
        have E := hide (HK.out.trans (if_pos k1))
        clear HK k1
        go_wp2_with (refine (KS.out _ S2.out).mono ?_; rintro e w' ⟨rfl, rfl⟩)
        go_ret
        exact ⟨ret_bool E.out.symm, hz.out⟩
      · have g1 : (k == 1) = false := by simp [k1]
        have HK := hide (HK.out.trans (if_neg k1))
        by_cases k2 : k = 2
        · have g2 : (k == 2) = true := by simp [k2]
          have E := hide (HK.out.trans (if_pos k2))
          clear HK k1 k2
          go_wp2_with (refine (KS.out _ S2.out).mono ?_; rintro e w' ⟨rfl, rfl⟩)
          go_ret
          exact ⟨ret_bool E.out.symm, hz.out⟩
        · have g2 : (k == 2) = false := by simp [k2]
          have HK := hide (HK.out.trans (if_neg k2))
          by_cases k3 : k = 3
          · have g3 : (k == 3) = true := by simp [k3]
            have E := hide (HK.out.trans (if_pos k3))
            clear HK k1 k2 k3
            go_wp2_with (refine (KS.out _ S2.out).mono ?_; rintro e w' ⟨rfl, rfl⟩)
            go_ret
            exact ⟨ret_bool E.out.symm, hz.out⟩
          · have g3 : (k == 3) = false := by simp [k3]
            have E := hide (HK.out.trans (if_neg k3))
            clear HK k1 k2 k3
            cases j
            · go_wp2_with (refine (KS.out _ S2.out).mono ?_; rintro e w' ⟨rfl, rfl⟩)
              go_ret
              exact ⟨ret_bool (by rw [E.out]; rfl), hz.out⟩
            · go_wp2_with (refine (KS.out _ S2.out).mono ?_; rintro e w' ⟨rfl, rfl⟩)
              go_ret
              exact ⟨ret_bool (by rw [E.out]; rfl), hz.out⟩
    · have hb1 : bb < (w.alloc (.cells #[.int .i64 t, .int .i64 who, .int .i64 k, .int .i64 g] 40)).heap.size := by simp; omega
      have cy1 : (w.alloc (.cells #[.int .i64 t, .int .i64 who, .int .i64 k, .int .i64 g] 40)).cell? ⟨bb, off + (l.length - 1) * 4, none⟩ = some (.int .i64 y) := (K.cell (p := ⟨bb, off + (l.length - 1) * 4, none⟩) hbb).trans cy
      have hp := List.length_pos_iff.2 hne
      have g0 : decide ((0 : Int) < l.length) = true := by simp; omega
      have gi : ((l.length : Int) - 1).toNat = l.length - 1 := by omega
      have gi0 : (0 : Int) ≤ (l.length : Int) - 1 := by omega
      have gi1 : (l.length : Int) - 1 < l.length := by omega
      clear hne
      by_cases hy : t < y
      · have gy : decide (t < y) = true := by simpa using hy
        obtain rfl : R = false := by rw [hR]; simp [hy]
        clear HK KS hR hy
        go_enter Try.func52, Try.ntmps52
        go_wp2_with fail
        have n0 := BW.get hlt c0
        have n1 := BW.get hlt c1
        have n2 := BW.get hlt c2
        have n3 := BW.get hlt c3
        have n4 := BW.get hb1 cy1
        (refine wp_quiet_below (by kernel_rfl) (by kernel_rfl) ?_; (repeat (go_big_quiet_step ((go_at_call 79; exact quiet_below (KF.out _))))); refine wpQuiet_nil ?_; rintro _ ⟨z, rfl⟩)
        clear n0 n1 n2 n3 n4 c0 c1 c2 c3 cy1 hb1 hlt KF
        go_wp2
        go_ret
        exact ⟨rfl, K.trans (z.below.mono (by simp))⟩
      · have gy : decide (t < y) = false := by simpa using hy
        obtain rfl : R = S := by rw [hR]; simp [hy]
        clear hR hy
        go_enter Try.func52, Try.ntmps52
        go_wp2_with fail
        have n0 := BW.get hlt c0
        have n1 := BW.get hlt c1
        have n2 := BW.get hlt c2
        have n3 := BW.get hlt c3
        have n4 := BW.get hb1 cy1
        (refine wp_quiet_below (by kernel_rfl) (by kernel_rfl) ?_; (repeat (go_big_quiet_step ((go_at_call 79; exact quiet_below (KF.out _))))); refine wpQuiet_nil ?_; rintro _ ⟨z, rfl⟩)
        have S2 := hide (S1.bel z.below)
        have d1 := n1 z
        have d2 := n2 z
        have hz := hide (K.trans (z.below.mono (by simp)))
        clear n0 n1 n2 n3 c0 c1 c2 c3 hlt KF B K S1 hS n4 cy1 hb1
        generalize z.world = W1 at *
        clear z
        by_cases k1 : k = 1
        · have g1 : (k == 1) = true := by simp [k1]
          have E := hide (HK.out.trans (if_pos k1))
          clear HK k1
          go_wp2_with (refine (KS.out _ S2.out).mono ?_; rintro e w' ⟨rfl, rfl⟩)
          go_ret
          exact ⟨ret_bool E.out.symm, hz.out⟩
        · have g1 : (k == 1) = false := by simp [k1]
          have HK := hide (HK.out.trans (if_neg k1))
          by_cases k2 : k = 2
          · have g2 : (k == 2) = true := by simp [k2]
            have E := hide (HK.out.trans (if_pos k2))
            clear HK k1 k2
            go_wp2_with (refine (KS.out _ S2.out).mono ?_; rintro e w' ⟨rfl, rfl⟩)
            go_ret
            exact ⟨ret_bool E.out.symm, hz.out⟩
          · have g2 : (k == 2) = false := by simp [k2]
            have HK := hide (HK.out.trans (if_neg k2))
            by_cases k3 : k = 3
            · have g3 : (k == 3) = true := by simp [k3]
              have E := hide (HK.out.trans (if_pos k3))
              clear HK k1 k2 k3
              go_wp2_with (refine (KS.out _ S2.out).mono ?_; rintro e w' ⟨rfl, rfl⟩)
              go_ret
              exact ⟨ret_bool E.out.symm, hz.out⟩
            · have g3 : (k == 3) = false := by simp [k3]
              have E := hide (HK.out.trans (if_neg k3))
              clear HK k1 k2 k3
              cases j
              · go_wp2_with (refine (KS.out _ S2.out).mono ?_; rintro e w' ⟨rfl, rfl⟩)
                go_ret
                exact ⟨ret_bool (by rw [E.out]; rfl), hz.out⟩
              · go_wp2_with (refine (KS.out _ S2.out).mono ?_; rintro e w' ⟨rfl, rfl⟩)
                go_ret
                exact ⟨ret_bool (by rw [E.out]; rfl), hz.out⟩
end Go.Proofs.Ytchdoamoeccjkaa
namespace Go.Proofs.Ytchdoamoeccjkaa
open Go.RowKit Go.Mine Go.Mine.V
attribute [local go_sem] Oper.semAt_some

set_option maxRecDepth 100000 in
set_option maxHeartbeats 4000000 in
theorem Check19_any (A : Option Addr) (c : Nat) (l : List Vi) (w : World) (hS : Sl viC 4 w A c l) :
    Calls Try.prog 19 #[.slice A l.length c] w fun e w' => e = .returned (.int .i64 (chk l)) ∧ Below w.heap.size w w' := by
  have hlc := hS.le
  have hc := hS.max
  have E := hide (show chk l = if 4096 < l.length then 2 else if refGo [] l = true then 0 else 520 by unfold chk; rw [refGo_chk])
  generalize chk l = R at E ⊢
  by_cases h4 : 4096 < l.length
  · obtain rfl : R = 2 := E.out.trans (if_pos h4)
    have g4 : decide ((4096 : Int) < l.length) = true := by simp; omega
    clear E hS
    go_enter Try.func19, Try.ntmps19
    go_wp2
    go_ret
    exact ⟨rfl, Below.refl _ _⟩
  · have g4 : decide ((4096 : Int) < l.length) = false := by simp; omega
    have E := hide (E.out.trans (if_neg h4))
    have HS := hide hS
    clear hS
    go_enter Try.func19, Try.ntmps19
    go_wp2
    go_loopw [3] (fun i wr => ∃ (k : Nat), k ≤ l.length ∧ i = .int .i64 k ∧ refGo [] l = refGo (l.take k) (l.drop k) ∧ Below w.heap.size w wr) (fun i _ => l.length - (nI i).toNat)
    case atStart => exact ⟨0, Nat.zero_le _, rfl, rfl, Below.refl _ _⟩
    case round =>
      obtain ⟨k, hk, rfl, hq, hbr⟩ := hrel
      by_cases hlt : k < l.length
      · obtain ⟨x, bb, off, hx, hdr, rfl, hbw, c0, c1, c2, c3⟩ := Sl.vi_at (HS.out.bel hbr) hlt
        rw [hdr] at hq
        have hlen : (l.take k).length = k := by simp; omega
        have KF := hide (fun w (hS : Sl viC 4 w (some ⟨bb, off, none⟩) c (l.take k)) => fits52_any (some ⟨bb, off, none⟩) c (l.take k) x w hS)
        rw [hlen] at KF
        have HB := hide hbr
        have EQ := hide (hq.trans (show refGo (l.take k) (x :: l.drop (k + 1)) = (fitsR (l.take k) x && refGo (l.take k ++ [x]) (l.drop (k + 1))) from rfl))
        rw [← take_of_get hx] at EQ
        have HT := hide (Sl.take_ (HS.out.bel hbr) k)
        generalize fitsR (l.take k) x = v at *
        obtain ⟨t, who, kk, g⟩ := x
        simp only [viV] at *
        have i0 : (0 : Int) ≤ k := by omega
        have i1 : (k : Int) ≤ l.length := by omega
        have i2 : (l.length : Int) ≤ c := by omega
        have i3 : (k : Int) ≤ c := by omega
        have n0 := BW.get hbw c0
        have n1 := BW.get hbw c1
        have n2 := BW.get hbw c2
        have n3 := BW.get hbw c3
        clear hq hdr hx hbr c0 c1 c2 c3
        go_wp2_with fail
        refine wp_quiet_below (by kernel_rfl) (by kernel_rfl) ?_
        repeat (go_big_quiet_step ((go_at_call 52; exact quiet_below (KF.out _ (HT.out.bel (BW.below _))))))
        refine wpQuiet_nil ?_
        rintro _ ⟨z, rfl⟩
        clear n0 n1 n2 n3
        have HB2 := hide (HB.out.trans (z.below.mono HB.out.size))
        cases v
        · obtain rfl : R = 520 := by rw [E.out, EQ.out]; simp
          go_wp2
          go_ret
          exact ⟨rfl, HB2.out⟩
        · go_wp2
          go_roundw
          case rel => exact ⟨k + 1, by omega, by go_num, by rw [EQ.out]; simp, HB2.out⟩
          case measure => simp [nI]; omega
      · rw [List.drop_of_length_le (by omega)] at hq
        obtain rfl : R = 0 := by rw [E.out, hq]; rfl
        clear hq HS
        have HB := hide hbr
        go_wp2
        go_ret
        exact ⟨rfl, HB.out⟩
end Go.Proofs.Ytchdoamoeccjkaa
namespace Go.Proofs.Ytchdoamoeccjkaa
open Go.RowKit Go.Mine Go.Mine.V
attribute [local go_sem] Oper.semAt_some

theorem vEarly_cons (t : Int) (x : Vi) (l : List Vi) : vEarly t (x :: l) = if x.t ≤ t then x :: vEarly t l else [] := by
  unfold vEarly; rw [List.takeWhile_cons]; by_cases h : x.t ≤ t <;> simp [h]
set_option maxHeartbeats 4000000 in
theorem sees50_any (A : Option Addr) (c : Nat) (l : List Vi) (who t : Int) (w : World) (hS : Sl viC 4 w A c l) :
    Calls Try.prog 50 #[.slice A l.length c, .int .i64 who, .int .i64 t] w fun e w' => e = .returned (.tuple #[.int .i64 (seesR (refState (vEarly t l) who)).1, .bool (seesR (refState (vEarly t l) who)).2]) ∧ w = w' := by
  have hlc := hS.le
  have hc := hS.max
  have KS := hide (fun k => by have := state77_any A c (l.take k) who w (Sl.take_ hS k); exact this)
  have HE := hide (fun (k : Nat) (hk : k ≤ l.length) (h : vEarly t l = l.take k) => (show vEarly t l = l.take k ∧ (l.take k).length = k from ⟨h, by simp; omega⟩))
  obtain ⟨R, HR⟩ : ∃ R, refState (vEarly t l) who = R := ⟨_, rfl⟩
  rw [HR]
  obtain ⟨j, o, g9⟩ := R
  have HR := hide HR
  go_enter Try.func50, Try.ntmps50
  go_wp2
  go_loop [8] (fun i => ∃ k : Nat, k ≤ l.length ∧ i = .int .i64 k ∧ vEarly t l = l.take k ++ vEarly t (l.drop k)) (fun i => l.length - (nI i).toNat)
  case atStart => exact ⟨0, Nat.zero_le _, rfl, rfl⟩
  case round =>
    obtain ⟨k, hk, rfl, hq⟩ := hrel
    have FIN : ∀ (h : vEarly t l = l.take k), Hid ((vEarly t l = l.take k) ∧ Calls Try.prog 77 #[.slice A k c, .int .i64 who] w fun e w' => e = .returned (.tuple #[.bool j, .bool o, .int .i64 g9]) ∧ w = w') := by
      intro h
      obtain ⟨h1, h2⟩ := HE.out k hk h
      have := KS.out k
      rw [h2, ← h1, HR.out] at this
      exact hide ⟨h1, this⟩
    have i0 : (0 : Int) ≤ k := by omega
    have i1 : (k : Int) ≤ l.length := by omega
    have i2 : (l.length : Int) ≤ c := by omega
    have i3 : (k : Int) ≤ c := by omega
    clear KS HE HR
    by_cases hlt : k < l.length
    · obtain ⟨x, bb, off, hx, hdr, rfl, hbw, c0, c1, c2, c3⟩ := Sl.vi_at hS hlt
      rw [hdr, vEarly_cons] at hq
      obtain ⟨tx, who', kk, g⟩ := x
      simp only at hq c0
      by_cases ht : tx ≤ t
      · have gt : decide (tx ≤ t) = true := by simpa using ht
        rw [if_pos ht, ← List.singleton_append, ← List.append_assoc, ← take_of_get hx] at hq
        have HQ := hide hq
        clear hq hdr hx hS ht FIN c1 c2 c3
        go_wp2
        go_round
        case rel => exact ⟨k + 1, by omega, by go_num, HQ.out⟩
        case measure => simp [nI]; omega
      · have gt : decide (tx ≤ t) = false := by simpa using ht
        rw [if_neg ht, List.append_nil] at hq
        have KF := hide ((FIN hq).out.2)
        clear hq hdr hx hS ht FIN c1 c2 c3
        cases o
        · go_wp2_with (refine KF.out.mono ?_; rintro e w' ⟨rfl, rfl⟩)
          exact bodyPost_ret (v := .tuple #[.int .i64 0, .bool false]) (by simp [results, Try.results50, go_sem]) rfl ⟨rfl, rfl⟩
        · go_wp2_with (refine KF.out.mono ?_; rintro e w' ⟨rfl, rfl⟩)
          exact bodyPost_ret (v := .tuple #[.int .i64 g9, .bool true]) (by simp [results, Try.results50, go_sem]) rfl ⟨rfl, rfl⟩
    · rw [List.drop_of_length_le (by omega), show vEarly t [] = [] from rfl, List.append_nil] at hq
      have KF := hide ((FIN hq).out.2)
      clear hq hS FIN
      cases o
      · go_wp2_with (refine KF.out.mono ?_; rintro e w' ⟨rfl, rfl⟩)
        exact bodyPost_ret (v := .tuple #[.int .i64 0, .bool false]) (by simp [results, Try.results50, go_sem]) rfl ⟨rfl, rfl⟩
      · go_wp2_with (refine KF.out.mono ?_; rintro e w' ⟨rfl, rfl⟩)
        exact bodyPost_ret (v := .tuple #[.int .i64 g9, .bool true]) (by simp [results, Try.results50, go_sem]) rfl ⟨rfl, rfl⟩
def tup3 (a : Int) (b : Bool) (c : Int) : Value := .tuple #[.int .i64 a, .bool b, .int .i64 c]
theorem seesG_err {l : List Vi} {who t : Int} (h : chk l ≠ 0) : seesG l who t = 0 ∧ seesO l who t = false ∧ seesE l who t = chk l := by
  unfold seesG seesO seesE; simp [h]
theorem seesG_arg {l : List Vi} {who t : Int} (h : chk l = 0) (ha : argST who t = false) : seesG l who t = 0 ∧ seesO l who t = false ∧ seesE l who t = 1 := by
  unfold seesG seesO seesE; simp [h, ha]
theorem seesG_ok {l : List Vi} {who t : Int} (h : chk l = 0) (ha : argST who t = true) : seesG l who t = (seesS (upTo nobody t l who)).1 ∧ seesO l who t = (seesS (upTo nobody t l who)).2 ∧ seesE l who t = 0 := by
  unfold seesG seesO seesE; simp [h, ha]
set_option maxHeartbeats 4000000 in
theorem Sees17_any (A : Option Addr) (c : Nat) (l : List Vi) (who t : Int) (w : World) (hS : Sl viC 4 w A c l) :
    Calls Try.prog 17 #[.slice A l.length c, .int .i64 who, .int .i64 t] w fun e w' => e = .returned (tup3 (seesG l who t) (seesO l who t) (seesE l who t)) ∧ Below w.heap.size w w' := by
  have HS := hide hS
  have KC := hide (Check19_any A c l w hS)
  have G1 := hide (seesG_err (l := l) (who := who) (t := t))
  have G2 := hide (seesG_arg (l := l) (who := who) (t := t))
  have G3 := hide (seesG_ok (l := l) (who := who) (t := t))
  have GE := hide (fun (h : chk l = 0) => by have := vEarly_ref (chk_go h).1 t who; exact this)
  have KS := hide (fun w (hS : Sl viC 4 w A c l) => by have := sees50_any A c l who t w hS; exact this)
  generalize seesG l who t = a at *
  generalize seesO l who t = b at *
  generalize seesE l who t = e9 at *
  generalize chk l = C at *
  unfold tup3
  clear hS
  by_cases hC : C = 0
  · subst hC
    have ha : argST who t = (inB who 100000 && inB t 1099511627776) := rfl
    rcases Bool.eq_false_or_eq_true (inB who 100000) with h1 | h1
    · rcases Bool.eq_false_or_eq_true (inB t 1099511627776) with h2 | h2
      · rw [h1, h2] at ha
        obtain ⟨e1, e2, e3⟩ := G3.out rfl ha
        rw [GE.out rfl, seesR_toR, ← e1, ← e2] at KS
        subst e3
        clear G1 G2 G3 GE ha e1 e2
        go_enter Try.func17, Try.ntmps17
        go_wp2_with fail
        refine KC.out.mono ?_
        rintro e w1 ⟨rfl, hb⟩
        have HB := hide hb
        have S1 := hide (HS.out.bel hb)
        clear hb HS KC
        go_wp2_with (first | (first | (go_at_call 49; with_reducible refine (within49_is h1 _).mono ?_; rintro e w' ⟨rfl, rfl⟩) | (go_at_call 49; with_reducible refine (within49_is h2 _).mono ?_; rintro e w' ⟨rfl, rfl⟩)) | (refine (KS.out _ S1.out).mono ?_; rintro e w' ⟨rfl, rfl⟩))
        exact bodyPost_ret (v := .tuple #[.int .i64 a, .bool b, .int .i64 0]) (by simp [results, Try.results17, go_sem]) rfl ⟨rfl, HB.out⟩
      · rw [h1, h2] at ha
        obtain ⟨rfl, rfl, rfl⟩ := G2.out rfl ha
        clear G1 G2 G3 GE ha KS
        go_enter Try.func17, Try.ntmps17
        go_wp2_with fail
        refine KC.out.mono ?_
        rintro e w1 ⟨rfl, hb⟩
        have HB := hide hb
        clear hb HS KC
        go_wp2_with (first | (go_at_call 49; with_reducible refine (within49_is h1 _).mono ?_; rintro e w' ⟨rfl, rfl⟩) | (go_at_call 49; with_reducible refine (within49_is h2 _).mono ?_; rintro e w' ⟨rfl, rfl⟩))
        exact bodyPost_ret (v := .tuple #[.int .i64 0, .bool false, .int .i64 1]) (by simp [results, Try.results17, go_sem]) rfl ⟨rfl, HB.out⟩
    · rw [h1] at ha
      obtain ⟨rfl, rfl, rfl⟩ := G2.out rfl ha
      clear G1 G2 G3 GE ha KS
      go_enter Try.func17, Try.ntmps17
      go_wp2_with fail
      refine KC.out.mono ?_
      rintro e w1 ⟨rfl, hb⟩
      have HB := hide hb
      clear hb HS KC
      go_wp2_with (first | (go_at_call 49; with_reducible refine (within49_is h1 _).mono ?_; rintro e w' ⟨rfl, rfl⟩) | (go_at_call 49; with_reducible refine (within49_is h2 _).mono ?_; rintro e w' ⟨rfl, rfl⟩))
      exact bodyPost_ret (v := .tuple #[.int .i64 0, .bool false, .int .i64 1]) (by simp [results, Try.results17, go_sem]) rfl ⟨rfl, HB.out⟩
  · obtain ⟨rfl, rfl, rfl⟩ := G1.out hC
    have gc : (e9 != 0) = true := by simp [hC]
    clear G1 G2 G3 GE KS hC HS
    go_enter Try.func17, Try.ntmps17
    go_wp2_with fail
    refine KC.out.mono ?_
    rintro e w1 ⟨rfl, hb⟩
    have HB := hide hb
    clear hb KC
    go_wp2
    exact bodyPost_ret (v := .tuple #[.int .i64 0, .bool false, .int .i64 e9]) (by simp [results, Try.results17, go_sem]) rfl ⟨rfl, HB.out⟩
set_option maxHeartbeats 4000000 in
theorem Sees16_any (A : Option Addr) (c : Nat) (l : List Vi) (who t : Int) (w : World) (hS : Sl viC 4 w A c l) (hI : ∀ x ∈ l, ViS x) :
    Calls Try.prog 16 #[.slice A l.length c, .int .i64 who, .int .i64 t] w fun e w' => e = .returned (tup3 (seesG l who t) (seesO l who t) (seesE l who t)) ∧ Below w.heap.size w w' := by
  have HS := hide hS
  have KC := hide (Check_any A c l w hS hI)
  have G1 := hide (seesG_err (l := l) (who := who) (t := t))
  have G2 := hide (seesG_arg (l := l) (who := who) (t := t))
  have G3 := hide (seesG_ok (l := l) (who := who) (t := t))
  have KS := hide (fun (h : chk l = 0) w (hS : Sl viC 4 w A c l) => by have := until_any A c l t w hS hI (by have := (chk_go h).2; omega); exact this)
  generalize seesG l who t = a at *
  generalize seesO l who t = b at *
  generalize seesE l who t = e9 at *
  generalize chk l = C at *
  unfold tup3
  clear hS
  by_cases hC : C = 0
  · subst hC
    have ha : argST who t = (inB who 100000 && inB t 1099511627776) := rfl
    rcases Bool.eq_false_or_eq_true (inB who 100000) with h1 | h1
    · rcases Bool.eq_false_or_eq_true (inB t 1099511627776) with h2 | h2
      · rw [h1, h2] at ha
        obtain ⟨e1, e2, e3⟩ := G3.out rfl ha
        subst e3
        replace KS := hide (KS.out rfl)
        have iw : I64 who := by rw [inB_iff] at h1; unfold I64; omega
        generalize upTo nobody t l = a0 at *
        clear G1 G2 G3 ha
        go_enter Try.func16, Try.ntmps16
        go_wp2_with fail
        refine KC.out.mono ?_
        rintro e w1 ⟨rfl, hb⟩
        have HB := hide hb
        have S1 := hide (HS.out.bel hb)
        clear hb HS KC
        go_wp2_with (first | (first | (go_at_call 47; with_reducible refine (within_is h1 _).mono ?_; rintro e w' ⟨rfl, rfl⟩) | (go_at_call 47; with_reducible refine (within_is h2 _).mono ?_; rintro e w' ⟨rfl, rfl⟩)))
        refine (KS.out _ S1.out).mono ?_
        rintro e w2 ⟨rfl, hM, hb2⟩
        have HB2 := hide (kcall HB.out hb2)
        have hl := hM.look Try.underlying3 Try.underlying72 (Try.zeroValue70 _) iw
        clear hM hb2 HB S1 KS
        rcases hw : a0 who with _ | ⟨o, g⟩
        · rw [(audM_none hw).1] at hl
          rw [hw] at e1 e2
          obtain rfl : a = 0 := e1
          obtain rfl : b = false := e2
          go_wp2
          exact bodyPost_ret (v := .tuple #[.int .i64 0, .bool false, .int .i64 0]) (by simp [results, Try.results16, go_sem]) rfl ⟨rfl, kalloc HB2.out _⟩
        · rw [(audM_some hw).1] at hl
          rw [hw] at e1 e2
          cases o
          · obtain rfl : a = 0 := e1
            obtain rfl : b = false := e2
            go_wp2
            exact bodyPost_ret (v := .tuple #[.int .i64 0, .bool false, .int .i64 0]) (by simp [results, Try.results16, go_sem]) rfl ⟨rfl, kalloc HB2.out _⟩
          · obtain rfl : a = g := e1
            obtain rfl : b = true := e2
            go_wp2
            exact bodyPost_ret (v := .tuple #[.int .i64 a, .bool true, .int .i64 0]) (by simp [results, Try.results16, go_sem]) rfl ⟨rfl, kalloc HB2.out _⟩
      · rw [h1, h2] at ha
        obtain ⟨rfl, rfl, rfl⟩ := G2.out rfl ha
        clear G1 G2 G3 ha KS
        go_enter Try.func16, Try.ntmps16
        go_wp2_with fail
        refine KC.out.mono ?_
        rintro e w1 ⟨rfl, hb⟩
        have HB := hide hb
        clear hb HS KC
        go_wp2_with (first | (go_at_call 47; with_reducible refine (within_is h1 _).mono ?_; rintro e w' ⟨rfl, rfl⟩) | (go_at_call 47; with_reducible refine (within_is h2 _).mono ?_; rintro e w' ⟨rfl, rfl⟩))
        exact bodyPost_ret (v := .tuple #[.int .i64 0, .bool false, .int .i64 1]) (by simp [results, Try.results16, go_sem]) rfl ⟨rfl, HB.out⟩
    · rw [h1] at ha
      obtain ⟨rfl, rfl, rfl⟩ := G2.out rfl ha
      clear G1 G2 G3 ha KS
      go_enter Try.func16, Try.ntmps16
      go_wp2_with fail
      refine KC.out.mono ?_
      rintro e w1 ⟨rfl, hb⟩
      have HB := hide hb
      clear hb HS KC
      go_wp2_with (first | (go_at_call 47; with_reducible refine (within_is h1 _).mono ?_; rintro e w' ⟨rfl, rfl⟩) | (go_at_call 47; with_reducible refine (within_is h2 _).mono ?_; rintro e w' ⟨rfl, rfl⟩))
      exact bodyPost_ret (v := .tuple #[.int .i64 0, .bool false, .int .i64 1]) (by simp [results, Try.results16, go_sem]) rfl ⟨rfl, HB.out⟩
  · obtain ⟨rfl, rfl, rfl⟩ := G1.out hC
    have gc : (e9 != 0) = true := by simp [hC]
    clear G1 G2 G3 KS hC HS
    go_enter Try.func16, Try.ntmps16
    go_wp2_with fail
    refine KC.out.mono ?_
    rintro e w1 ⟨rfl, hb⟩
    have HB := hide hb
    clear hb KC
    go_wp2
    exact bodyPost_ret (v := .tuple #[.int .i64 0, .bool false, .int .i64 e9]) (by simp [results, Try.results16, go_sem]) rfl ⟨rfl, HB.out⟩
end Go.Proofs.Ytchdoamoeccjkaa

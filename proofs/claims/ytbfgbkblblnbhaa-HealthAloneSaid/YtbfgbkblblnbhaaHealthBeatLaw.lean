/-
  HealthBeat: for all beats and numbers the call returns true, and its arguments read as they did. No conditions.
-/
import Derived.Test.YtbfgbkblblnbhaaHealthSpecLaw
namespace Go.Proofs.Ytbfgbkblblnbhaa
open Go.RowKit Go.Mine Go.Mine.H Go.ChangeShapes Go.WideShapes Go.ChangeAt

def ic (n : Int) : List Value := [.int .i64 n]

theorem rightB_chk {l : List Beat} (h : rightB l = true) : chk l = 0 := by simp [rightB] at h; exact h.2
theorem heard_beat {l : List Beat} {x : Beat} {q u : Int} (hz : chk l = 0) (hx : x ∈ l) (hq : withinB q 1 1073741824 = true) (h1 : x.2 ≤ u) (h2 : u - q < x.2) (h3 : u ≤ 1099511627775) : heardR l x.1 q u = (true, 0) := by
  obtain ⟨b1, b2, b3, b4⟩ := (chk_sorted l hz).2.1 x hx
  have e1 : withinB x.1 0 15 = true := (withinB_iff _ _ _).2 ⟨b3, b4⟩
  have e2 : withinB u 0 1099511627775 = true := (withinB_iff _ _ _).2 ⟨by omega, h3⟩
  unfold heardR argsOk
  rw [if_pos hz, e1, hq, e2]
  simp only [Bool.and_self, if_true]
  congr 1
  unfold isIn
  rw [List.any_eq_true]
  exact ⟨x, hx, by simp [h1, h2]⟩
theorem heardR_cases (l : List Beat) (n q t : Int) : (heardR l n q t).1 = false ∨ (heardR l n q t = (true, 0) ∧ isIn l n q t = true ∧ 0 ≤ t ∧ t ≤ 1099511627775) := by
  unfold heardR
  split
  · split
    · rename_i h
      simp only [Bool.and_eq_true] at h
      have := (withinB_iff _ _ _).1 h.2
      cases hi : isIn l n q t
      · exact .inl rfl
      · exact .inr ⟨rfl, rfl, this.1, by omega⟩
    · exact .inl rfl
  · exact .inl rfl

theorem isIn_take {l : List Beat} {k : Nat} {y : Beat} (n q t : Int) (h : l[k]? = some y) : isIn (l.take (k + 1)) n q t = (isIn (l.take k) n q t || ((y.1 == n) && (decide (y.2 ≤ t) && decide (t - q < y.2)))) := by
  unfold isIn
  rw [take_of_get h, List.any_append]
  simp

set_option maxHeartbeats 2000000 in
theorem healthBeat_law (A : Option Addr) (c : Nat) (l : List Beat) (at_ : Nat) (n q t : Int) (w : World) (hat : at_ < 256) (hS : Sl bc 2 w A c l) :
    Calls Try.prog 5 #[.slice A l.length c, .int .u8 at_, .int .i64 n, .int .i64 q, .int .i64 t] w fun e w' => e = .returned (.bool true) ∧ Below w.heap.size w w' := by
  have hlc := hS.le
  have hc := hS.max
  have K15 := hide sane_any
  by_cases hr : rightB l = true
  · by_cases hq : withinB q 1 1073741824 = true
    · have hz := rightB_chk hr
      obtain ⟨q1, q2⟩ := (withinB_iff _ _ _).1 hq
      have KR := hide (fun w (hS : Sl bc 2 w A c l) => right_any A c l w hS)
      rw [hr] at KR
      have KQ := hide (refQuiet_any q)
      rw [hq] at KQ
      by_cases hne : l = []
      · subst hne
        have KH := hide (fun w (hS : Sl bc 2 w A c []) => Heard_any A c [] n q t w hS)
        unfold heardV at KH
        have h0 : (heardR [] n q t).1 = false := by
          rcases heardR_cases [] n q t with h0 | ⟨_, h1, _⟩
          · exact h0
          · cases h1
        rw [h0] at KH
        simp only [List.length_nil] at KH KR ⊢
        by_cases hE : (heardR [] n q t).2 = 0
        · rw [hE] at KH
          clear hE h0 hz hr hq
          go_enter Try.func5, Try.ntmps5
          go_wp2_with fail
          refine (K15.out w).mono ?_
          rintro e w1 ⟨rfl, hb1⟩
          have s1 := hS.bel hb1
          have hN1 := hb1.size
          go_wp2_with fail
          refine (KR.out w1 s1).mono ?_
          rintro e w2 ⟨rfl, hb2⟩
          have s2 := s1.bel hb2
          have hB2 := bstep hb1 hN1 hb2
          have hN2 := hB2.size
          go_wp2_with (go_at_call 28; refine (KQ.out _).mono ?_; rintro e w' ⟨rfl, rfl⟩)
          refine (KH.out w2 s2).mono ?_
          rintro e w4 ⟨rfl, hb4⟩
          have hB4 := bstep hB2 hN2 hb4
          go_wp2
          go_ret
          exact ⟨rfl, hB4⟩
        · generalize (heardR [] n q t).2 = E at KH hE
          have hE' : (E != 0) = true := by simpa using hE
          clear hE h0 hz hr hq
          go_enter Try.func5, Try.ntmps5
          go_wp2_with fail
          refine (K15.out w).mono ?_
          rintro e w1 ⟨rfl, hb1⟩
          have s1 := hS.bel hb1
          have hN1 := hb1.size
          go_wp2_with fail
          refine (KR.out w1 s1).mono ?_
          rintro e w2 ⟨rfl, hb2⟩
          have s2 := s1.bel hb2
          have hB2 := bstep hb1 hN1 hb2
          have hN2 := hB2.size
          go_wp2_with (go_at_call 28; refine (KQ.out _).mono ?_; rintro e w' ⟨rfl, rfl⟩)
          refine (KH.out w2 s2).mono ?_
          rintro e w4 ⟨rfl, hb4⟩
          have hB4 := bstep hB2 hN2 hb4
          go_wp2
          go_ret
          exact ⟨rfl, hB4⟩
      · have hpos : 0 < l.length := List.length_pos_iff.2 hne
        have g1 : decide (0 < (l.length : Int)) = true := by simp; omega
        have hmod : at_ % l.length < l.length := Nat.mod_lt _ hpos
        obtain ⟨b, off, hA, hbw, hcells⟩ := hS.addr hne
        subst hA
        obtain ⟨x, hx⟩ : ∃ x, l[at_ % l.length]? = some x := ⟨_, List.getElem?_eq_getElem hmod⟩
        have hxm := List.mem_of_getElem? hx
        obtain ⟨x1, x2, x3, x4⟩ := (chk_sorted l hz).2.1 x hxm
        have b1 := hcells _ x hx 0 _ rfl
        have b2 := hcells _ x hx 1 _ rfl
        have HZ := hide hz
        have HX := hide hxm
        have HC := hide @hcells
        have HN := hide hne
        clear hcells hx hxm hz hr hne hq
        go_enter Try.func5, Try.ntmps5
        go_wp2_with fail
        refine (K15.out w).mono ?_
        rintro e w1 ⟨rfl, hb1⟩
        have s1 := hS.bel hb1
        have hN1 := hb1.size
        go_wp2_with fail
        refine (KR.out w1 s1).mono ?_
        rintro e w2 ⟨rfl, hb2⟩
        have hB2 := bstep hb1 hN1 hb2
        have hN2 := hB2.size
        have b1' : w2.cell? ⟨b, off + (at_ % l.length) * 2, none⟩ = some (.int .i64 x.1) := (hB2.cell (p := ⟨b, off + (at_ % l.length) * 2, none⟩) hbw).trans b1
        have b2' : w2.cell? ⟨b, off + (at_ % l.length) * 2 + 1, none⟩ = some (.int .i64 x.2) := (hB2.cell (p := ⟨b, off + (at_ % l.length) * 2 + 1, none⟩) hbw).trans b2
        go_wp2_with (go_at_call 28; refine (KQ.out _).mono ?_; rintro e w' ⟨rfl, rfl⟩)
        have hI0 := hB2
        go_loopw [50] (fun i wr => ∃ (k : Nat), k ≤ 2 ∧ i = .int .i64 k ∧ Below w.heap.size w wr ∧ w2.heap.size + 2 ≤ wr.heap.size ∧ wr.cell? ⟨w2.heap.size, 0, none⟩ = some (.int .i64 x.1) ∧ wr.cell? ⟨w2.heap.size + 1, 0, none⟩ = some (.int .i64 x.2) ∧ wr.cell? ⟨w2.heap.size + 1, 1, none⟩ = some (.int .i64 (x.2 + q - 1)))
          (fun i _ => 2 - (intOf i).toNat)
        case atStart =>
          refine ⟨0, by omega, rfl, ?_, ?_, ?_, ?_, ?_⟩
          · exact (hB2.alloc hN2 _).alloc (by simp; omega) _
          · simp
          · rw [World.cell?, heap_alloc_at (heap_new _ _)]; rfl
          · rw [World.cell?, new_row1]; rfl
          · rw [World.cell?, new_row1]; rfl
        case round =>
          obtain ⟨k, hk, rfl, hb, hsz, d1, d2, d3⟩ := hrel
          have sr := hS.bel hb
          have hNr := hb.size
          by_cases hk2 : k = 2
          · subst hk2
            have KH := hide (fun w (hS : Sl bc 2 w (some ⟨b, off, none⟩) c l) => Heard_any (some ⟨b, off, none⟩) c l n q t w hS)
            unfold heardV at KH
            rcases heardR_cases l n q t with h0 | ⟨h0, h1, h2, h3⟩
            · rw [h0] at KH
              by_cases hE : (heardR l n q t).2 = 0
              · rw [hE] at KH
                clear hE h0
                go_wp2_with fail
                refine (KH.out wr sr).mono ?_
                rintro e w4 ⟨rfl, hb4⟩
                have hB4 := bstep hb hNr hb4
                go_wp2
                go_ret
                exact ⟨rfl, hB4⟩
              · generalize (heardR l n q t).2 = E at KH hE
                have hE' : (E != 0) = true := by simpa using hE
                clear hE h0
                go_wp2_with fail
                refine (KH.out wr sr).mono ?_
                rintro e w4 ⟨rfl, hb4⟩
                have hB4 := bstep hb hNr hb4
                go_wp2
                go_ret
                exact ⟨rfl, hB4⟩
            · rw [h0] at KH
              have H1 := hide h1
              clear h0 h1
              go_wp2_with fail
              refine (KH.out wr sr).mono ?_
              rintro e w4 ⟨rfl, hb4⟩
              have hB4 := bstep hb hNr hb4
              have s4 := hS.bel hB4
              clear hb hb4
              go_wp2
              go_loopw [90] (fun i wr => ∃ (k : Nat), k ≤ l.length ∧ i = .int .i64 k ∧ isIn (l.take k) n q t = false ∧ Below w.heap.size w wr) (fun i _ => l.length - (intOf i).toNat)
              case atStart => exact ⟨0, Nat.zero_le _, rfl, rfl, hB4⟩
              case round =>
                obtain ⟨k, hk, rfl, hi, hb⟩ := hrel
                by_cases hlt : k < l.length
                · obtain ⟨y, b', off', hy, _, e, hbw', p1, p2⟩ := Sl.two hS hb hlt
                  obtain ⟨rfl, rfl⟩ : b = b' ∧ off = off' := by simpa using e
                  clear e
                  obtain ⟨y1, y2, y3, y4⟩ := (chk_sorted l HZ.out).2.1 y (List.mem_of_getElem? hy)
                  have HI := hide (isIn_take n q t hy)
                  have HN' := hide hi
                  clear hi hy
                  have hN4 := hb.size
                  by_cases e1 : y.1 = n
                  · by_cases e2 : y.2 ≤ t
                    · by_cases e3 : t - y.2 < q
                      · go_wp2
                        go_ret
                        exact ⟨rfl, hb.alloc hN4 _⟩
                      · go_wp2
                        go_roundw
                        case rel => exact ⟨k + 1, by omega, by go_num, by rw [HI.out, HN'.out]; simp; omega, hb.alloc hN4 _⟩
                        case measure => simp [intOf]; omega
                    · go_wp2
                      go_roundw
                      case rel => exact ⟨k + 1, by omega, by go_num, by rw [HI.out, HN'.out]; simp; omega, hb.alloc hN4 _⟩
                      case measure => simp [intOf]; omega
                  · go_wp2
                    go_roundw
                    case rel => exact ⟨k + 1, by omega, by go_num, by rw [HI.out, HN'.out]; simp [e1], hb.alloc hN4 _⟩
                    case measure => simp [intOf]; omega
                · exfalso
                  rw [List.take_of_length_le (by omega), H1.out] at hi
                  cases hi
          · by_cases hk1 : k = 0
            · subst hk1
              have KH := hide (fun w (hS : Sl bc 2 w (some ⟨b, off, none⟩) c l) => Heard_any (some ⟨b, off, none⟩) c l x.1 q x.2 w hS)
              unfold heardV at KH
              rw [heard_beat (l := l) (x := x) (q := q) (u := x.2) HZ.out HX.out ((withinB_iff _ _ _).2 ⟨q1, q2⟩) (by omega) (by omega) (by omega)] at KH
              go_wp2_with fail
              refine (KH.out wr sr).mono ?_
              rintro e w4 ⟨rfl, hb4⟩
              have hB4 := bstep hb hNr hb4
              go_wp2
              go_roundw
              case rel => exact ⟨1, by omega, by go_num, hB4, Nat.le_trans hsz hb4.size, (hb4.cell (p := ⟨_, 0, none⟩) (by (try dsimp only); omega)).trans d1, (hb4.cell (p := ⟨_, 0, none⟩) (by (try dsimp only); omega)).trans d2, (hb4.cell (p := ⟨_, 1, none⟩) (by (try dsimp only); omega)).trans d3⟩
              case measure => simp [intOf]
            · have : k = 1 := by omega
              subst this
              by_cases hu : x.2 + q - 1 ≤ 1099511627775
              · have KH := hide (fun w (hS : Sl bc 2 w (some ⟨b, off, none⟩) c l) => Heard_any (some ⟨b, off, none⟩) c l x.1 q (x.2 + q - 1) w hS)
                unfold heardV at KH
                rw [heard_beat (l := l) (x := x) (q := q) (u := x.2 + q - 1) HZ.out HX.out ((withinB_iff _ _ _).2 ⟨q1, q2⟩) (by omega) (by omega) hu] at KH
                go_wp2_with fail
                refine (KH.out wr sr).mono ?_
                rintro e w4 ⟨rfl, hb4⟩
                have hB4 := bstep hb hNr hb4
                go_wp2
                go_roundw
                case rel => exact ⟨2, by omega, by go_num, hB4, Nat.le_trans hsz hb4.size, (hb4.cell (p := ⟨_, 0, none⟩) (by (try dsimp only); omega)).trans d1, (hb4.cell (p := ⟨_, 0, none⟩) (by (try dsimp only); omega)).trans d2, (hb4.cell (p := ⟨_, 1, none⟩) (by (try dsimp only); omega)).trans d3⟩
                case measure => simp [intOf]
              · go_wp2
                go_roundw
                case rel => exact ⟨2, by omega, by go_num, hb, hsz, d1, d2, d3⟩
                case measure => simp [intOf]
    · have hq' : withinB q 1 1073741824 = false := by simpa using hq
      have KR := hide (fun w (hS : Sl bc 2 w A c l) => right_any A c l w hS)
      rw [hr] at KR
      have KQ := hide (refQuiet_any q)
      rw [hq'] at KQ
      clear hr hq hq'
      go_enter Try.func5, Try.ntmps5
      go_wp2_with fail
      refine (K15.out w).mono ?_
      rintro e w1 ⟨rfl, hb1⟩
      have s1 := hS.bel hb1
      have hN1 := hb1.size
      go_wp2_with fail
      refine (KR.out w1 s1).mono ?_
      rintro e w2 ⟨rfl, hb2⟩
      have hB2 := bstep hb1 hN1 hb2
      go_wp2_with (go_at_call 28; refine (KQ.out _).mono ?_; rintro e w' ⟨rfl, rfl⟩)
      go_ret
      exact ⟨rfl, hB2⟩
  · have hr' : rightB l = false := by simpa using hr
    have KR := hide (fun w (hS : Sl bc 2 w A c l) => right_any A c l w hS)
    rw [hr'] at KR
    clear hr hr'
    go_enter Try.func5, Try.ntmps5
    go_wp2_with fail
    refine (K15.out w).mono ?_
    rintro e w1 ⟨rfl, hb1⟩
    have s1 := hS.bel hb1
    have hN1 := hb1.size
    go_wp2_with fail
    refine (KR.out w1 s1).mono ?_
    rintro e w2 ⟨rfl, hb2⟩
    have hB2 := bstep hb1 hN1 hb2
    go_wp2
    go_ret
    exact ⟨rfl, hB2⟩
end Go.Proofs.Ytbfgbkblblnbhaa

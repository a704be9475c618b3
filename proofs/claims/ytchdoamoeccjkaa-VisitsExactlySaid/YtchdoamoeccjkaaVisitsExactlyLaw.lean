/-
  VisitsExactly's walk.
-/
import Derived.Test.YtchdoamoeccjkaaVM7
import Derived.Test.YtchdoamoeccjkaaVM10
import Derived.Test.YtchdoamoeccjkaaVPure8
namespace Go.Proofs.Ytchdoamoeccjkaa
open Go.RowKit Go.Shelf Go.Mine Go.Mine.V
open Go.Mine.S (Sp good inL chkS uni fAnd fOr)
attribute [local go_sem] Oper.semAt_some

theorem any_take (l : List Int) (k : Nat) (w x : Int) (h : l[k]? = some x) : decide (w ∈ l.take (k + 1)) = (decide (w ∈ l.take k) || (x == w)) := by
  rw [take_of_get h, Bool.eq_iff_iff]
  simp only [List.mem_append, List.mem_singleton, Bool.or_eq_true, decide_eq_true_eq, beq_iff_eq]
  constructor
  · rintro (h | h)
    · exact .inl h
    · exact .inr h.symm
  · rintro (h | h)
    · exact .inl h
    · exact .inr h.symm
theorem prev_lt {l : List Int} (h : l.Pairwise (· < ·)) {k : Nat} {x y : Int} (hx : l[k]? = some x) (hy : l[k - 1]? = some y) (hk : 0 < k) : y < x := by
  obtain ⟨h1, e1⟩ := List.getElem?_eq_some_iff.1 hx
  obtain ⟨h2, e2⟩ := List.getElem?_eq_some_iff.1 hy
  have := List.pairwise_iff_getElem.1 h (k - 1) k h2 h1 (by omega)
  rw [e1, e2] at this
  exact this
set_option maxRecDepth 100000 in
set_option maxHeartbeats 8000000 in
theorem visitsExactly_in (A : Option Addr) (c : Nat) (l : List Vi) (who t : Int) (w : World) (hS : Sl viC 4 w A c l) (hI : ∀ x ∈ l, ViS x) (h : rightV l = true) (w0 : 0 ≤ who) (w1 : who < 100000) (t0 : 0 ≤ t) (t1 : t < 1099511627776) :
    Calls Try.prog 12 #[.slice A l.length c, .int .i64 who, .int .i64 t] w fun e w' => e = .returned (.bool true) ∧ Below w.heap.size w w' := by
  have KS := hide sane14_any
  have KR := hide (fun w (hS : Sl viC 4 w A c l) => by have := right26_any A c l w hS; rw [h] at this; exact this)
  obtain ⟨hll, hz⟩ := rightV_ok h
  have ha : argST who t = true := by unfold argST; rw [inB_iff.2 ⟨w0, w1⟩, inB_iff.2 ⟨t0, t1⟩]; rfl
  obtain ⟨g1, g2, g3⟩ := seesG_ok hz ha
  have K16 := hide (fun w (hS : Sl viC 4 w A c l) => by have := Sees16_any A c l who t w hS hI; unfold tup3 at this; rw [g1, g2, g3] at this; exact this)
  have HR := hide (own_range (l := l) (w := who) (t := t))
  have KF := hide (fun (g : Int) => exact_facts hz who t g t1)
  generalize seesS (upTo nobody t l who) = sv at *
  obtain ⟨own, ok⟩ := sv
  simp only at K16 HR KF
  have K20 := hide (fun (k : Nat) (hk : k < 32) w (hS : Sl viC 4 w A c l) => by
    have := Spans20_any A c l who k w hS hI
    have ha : argSL who k = true := by unfold argSL; rw [inB_iff.2 ⟨w0, w1⟩, inB_iff.2 ⟨by omega, by omega⟩]; rfl
    rw [(span_ok hz ha).1, (span_ok hz ha).2] at this
    exact this)
  have K22 := hide (fun (k : Nat) (hk : k < 32) w (hS : Sl viC 4 w A c l) => by
    have := Present22_any A c l k t w hS hI
    have ha : argLT k t = true := by unfold argLT; rw [inB_iff.2 ⟨t0, t1⟩, inB_iff.2 ⟨by omega, by omega⟩]; rfl
    rw [(pres_ok hz ha).1, (pres_ok hz ha).2] at this
    exact this)
  have K40 := hide (fun (k : Nat) A' c' w (hS : Sl spc 2 w A' c' (spans who k l)) => by
    have := sHas_any A' c' (spans who k l) t w hS
    unfold hasR hasE at this
    rw [if_pos ⟨chkS_spans hz hll who k, t0, t1⟩, if_pos (chkS_spans hz hll who k), if_pos ⟨t0, t1⟩, (KF.out k).1] at this
    exact this)
  have K41 := hide (fun (k : Nat) A' c' w (hS : Sl spc 2 w A' c' (spans who k l)) => by
    have := sCheck_any A' c' (spans who k l) w hS
    rw [chkS_spans hz hll who k] at this
    exact this)
  have KP := hide (fun (k : Nat) => And.intro (pres_is l k t).1 (KF.out k).2)
  have dw0 : decide (who < 0) = false := by simp; omega
  have dw1 : decide (100000 ≤ who) = false := by simp; omega
  have dt0 : decide (t < 0) = false := by simp; omega
  have dt1 : decide (1099511627776 ≤ t) = false := by simp; omega
  have B0 := Below.refl w.heap.size w
  clear h hz ha g1 g2 g3 KF hI w0 w1 t0 t1
  go_enter Try.func12, Try.ntmps12
  go_wp2_with fail
  refine (KS.out _).mono ?_
  rintro e w1 ⟨rfl, hb⟩
  have B1 := kcall B0 hb
  have s1 := hS.bel hb
  clear hb B0 KS hS
  go_wp2_with fail
  refine (KR.out _ s1).mono ?_
  rintro e w2 ⟨rfl, hb⟩
  have B2 := kcall B1 hb
  have s2 := s1.bel hb
  clear hb B1 s1 KR
  go_wp2_with fail
  refine (K16.out _ s2).mono ?_
  rintro e w3 ⟨rfl, hb⟩
  have B3 := hide (kcall B2 hb)
  have s3 := hide (s2.bel hb)
  clear hb B2 s2 K16
  go_wp2_with fail
  go_loopw [52] (fun i wr => ∃ k : Nat, k ≤ 32 ∧ i = .int .i64 k ∧ Below w3.heap.size w3 wr) (fun i _ => 32 - (nI i).toNat)
  case atStart => exact ⟨0, by omega, rfl, Below.refl _ _⟩
  case round =>
    obtain ⟨k, hk, rfl, hb⟩ := hrel
    have s4 := s3.out.bel hb
    obtain ⟨w4, hw4⟩ : ∃ x, x = wr := ⟨_, rfl⟩
    have HB4 := hide (kcall B3.out hb)
    have HB := hide hb
    by_cases hlt : k < 32
    · have gk : decide ((k : Int) < 32) = true := by simp; omega
      have KK20 := hide (K20.out k hlt)
      have KK22 := hide (K22.out k hlt)
      have KK40 := hide (K40.out k)
      have KK41 := hide (K41.out k)
      obtain ⟨hps, hpm⟩ := KP.out k
      obtain ⟨want, hwant⟩ : ∃ b, (ok && decide (own = (k : Int))) = b := ⟨_, rfl⟩
      rw [hwant] at KK40 hpm
      have HW := hide hwant
      generalize spans who k l = s at *
      generalize pres l k t = p at *
      have HPS := hide hps
      have HPM := hide hpm
      clear K20 K22 K40 K41 KP hps hpm hwant hb HR
      have hwn : want = true ∧ ok = true ∧ ((k : Int) == own) = true ∨ want = false ∧ ok = true ∧ ((k : Int) == own) = false ∨ want = false ∧ ok = false := by
        have := HW.out
        cases ok
        · exact .inr (.inr ⟨by simpa using this.symm, rfl⟩)
        · by_cases he : own = (k : Int)
          · left; refine ⟨by rw [← this]; simp [he], rfl, by simp [he]⟩
          · right; left; refine ⟨by rw [← this]; simp [he], rfl, by simp; omega⟩
      rcases hwn with ⟨rfl, rfl, he⟩ | ⟨rfl, rfl, he⟩ | ⟨rfl, rfl⟩
      all_goals
        clear HW
        go_wp2_with fail
        refine (KK20.out _ s4).mono ?_
        rintro e w5 ⟨A1, c1, rfl, X1, hb5⟩
        have B5 := kcall HB.out hb5
        have s5 := s4.bel hb5
        clear hb5 s4 HB KK20
        go_wp2_with fail
        refine (KK40.out _ _ _ X1).mono ?_
        rintro e w6 ⟨rfl, hb6⟩
        have B6 := kcall B5 hb6
        have s6 := s5.bel hb6
        have X1 := X1.bel hb6
        clear hb6 s5 B5 KK40
        go_wp2_with fail
        refine (KK22.out _ s6).mono ?_
        rintro e w7 ⟨A3, c3, rfl, X3, hb7⟩
        have B7 := kcall B6 hb7
        have X1 := X1.bel hb7
        clear hb7 s6 B6 KK22
        go_wp2_with fail
        refine (KK41.out _ _ _ X1).mono ?_
        rintro e w8 ⟨rfl, hb8⟩
        have B8 := hide (kcall B7 hb8)
        have X3 := hide (X3.bel hb8)
        clear hb8 B7 KK41 X1
        have hpl := X3.out.le
        have hpc := X3.out.max
        go_wp2_with fail
        go_loopw [18, 103] (fun f j wq => ∃ (j' : Nat), j' ≤ p.length ∧ j = .int .i64 j' ∧ f = .bool (decide (who ∈ p.take j')) ∧ w8 = wq) (fun _ j _ => p.length - (nI j).toNat)
        case atStart => exact ⟨0, by omega, rfl, by simp, rfl⟩
        case round =>
          obtain ⟨j, hj, rfl, rfl, rfl⟩ := hrel
          by_cases hjl : j < p.length
          · obtain ⟨x, b, o, hx, _, rfl, hbw, p0⟩ := Sl.ic_at X3.out hjl
            have hA := hide (any_take p j who x hx)
            by_cases hj0 : j = 0
            · subst hj0
              have hf0 : decide (who ∈ p.take 0) = false := by simp
              rw [hf0, Bool.false_or] at hA
              rw [hf0]
              rw [Nat.add_zero] at p0
              have hp0 : (0 : Int) < p.length := by omega
              clear hf0 HPM hx
              go_wp2
              go_roundw
              case rel => exact ⟨1, by omega, by go_num, by rw [show p.take 1 = p.take (0 + 1) from rfl, hA.out], by first | trivial | rfl⟩
              case measure => simp [nI]; omega
            · obtain ⟨y, b', o', hy, _, hA2, _, q0⟩ := Sl.ic_at X3.out (show j - 1 < p.length by omega)
              simp only [Option.some.injEq, Addr.mk.injEq, and_true] at hA2
              obtain ⟨rfl, rfl⟩ := hA2
              have hlt2 : decide (x ≤ y) = false := by
                have := prev_lt HPS.out hx hy (by omega)
                simp; omega
              have j0 : decide ((0 : Int) < j) = true := by simp; omega
              have j1 : ((j : Int) - 1).toNat = j - 1 := by omega
              have j2 : (0 : Int) ≤ (j : Int) - 1 := by omega
              have j3 : (j : Int) - 1 < p.length := by omega
              clear HPM hx hy
              generalize decide (who ∈ p.take j) = f0 at *
              cases f0
              · rw [Bool.false_or] at hA
                go_wp2
                go_roundw
                case rel => exact ⟨j + 1, by omega, by go_num, by rw [hA.out], by first | trivial | rfl⟩
                case measure => simp [nI]; omega
              · rw [Bool.true_or] at hA
                go_wp2
                go_roundw
                case rel => exact ⟨j + 1, by omega, by go_num, by rw [hA.out], by first | trivial | rfl⟩
                case measure => simp [nI]; omega
          · have hpm := HPM.out
            rw [List.take_of_length_le (by omega), hpm]
            clear hpm HPM HPS X3
            go_wp2
            subst hw4
            go_roundw
            case rel => exact ⟨k + 1, by omega, by go_num, B8.out⟩
            case measure => simp [nI]; omega
    · have gk : decide ((k : Int) < 32) = false := by simp; omega
      clear K20 K22 K40 K41 KP
      cases ok
      · go_wp2
        go_ret
        exact ⟨rfl, HB4.out⟩
      · obtain ⟨r1, r2⟩ := HR.out rfl
        have d1 : decide (0 ≤ own) = true := by simpa using r1
        have d2 : decide (own < 32) = true := by simpa using r2
        clear HR
        go_wp2
        go_ret
        exact ⟨ret_bool (by simp), HB4.out⟩
set_option maxRecDepth 100000 in
set_option maxHeartbeats 4000000 in
theorem visitsExactly_law (A : Option Addr) (c : Nat) (l : List Vi) (who t : Int) (w : World) (hS : Sl viC 4 w A c l) (hI : ∀ x ∈ l, ViS x) :
    Calls Try.prog 12 #[.slice A l.length c, .int .i64 who, .int .i64 t] w fun e w' => e = .returned (.bool true) ∧ Below w.heap.size w w' := by
  by_cases hin : rightV l = true ∧ 0 ≤ who ∧ who < 100000 ∧ 0 ≤ t ∧ t < 1099511627776
  · obtain ⟨h, h1, h2, h3, h4⟩ := hin
    exact visitsExactly_in A c l who t w hS hI h h1 h2 h3 h4
  · have KS := hide sane14_any
    have hcase : rightV l = false ∨ (rightV l = true ∧ decide (who < 0) = true) ∨ (rightV l = true ∧ decide (who < 0) = false ∧ decide (100000 ≤ who) = true) ∨ (rightV l = true ∧ decide (who < 0) = false ∧ decide (100000 ≤ who) = false ∧ decide (t < 0) = true) ∨
        (rightV l = true ∧ decide (who < 0) = false ∧ decide (100000 ≤ who) = false ∧ decide (t < 0) = false ∧ decide (1099511627776 ≤ t) = true) := by
      simp only [decide_eq_true_eq, decide_eq_false_iff_not]
      rcases Bool.eq_false_or_eq_true (rightV l) with h | h
      · right
        have : ¬ (0 ≤ who ∧ who < 100000 ∧ 0 ≤ t ∧ t < 1099511627776) := fun e => hin ⟨h, e⟩
        simp only [h, true_and]
        omega
      · exact .inl h
    have KR := hide (fun w (hS : Sl viC 4 w A c l) => right26_any A c l w hS)
    generalize rightV l = R at *
    clear hin hI
    rcases hcase with rfl | ⟨rfl, d1⟩ | ⟨rfl, d1, d2⟩ | ⟨rfl, d1, d2, d3⟩ | ⟨rfl, d1, d2, d3, d4⟩
    all_goals
      go_enter Try.func12, Try.ntmps12
      go_wp2_with fail
      refine (KS.out _).mono ?_
      rintro e w1 ⟨rfl, hb⟩
      have s1 := hS.bel hb
      go_wp2_with fail
      refine (KR.out _ s1).mono ?_
      rintro e w2 ⟨rfl, hb2⟩
      have B2 := hide (kcall hb hb2)
      clear hb hb2 s1 KS KR hS
      go_wp2
      go_ret
      exact ⟨rfl, B2.out⟩
end Go.Proofs.Ytchdoamoeccjkaa

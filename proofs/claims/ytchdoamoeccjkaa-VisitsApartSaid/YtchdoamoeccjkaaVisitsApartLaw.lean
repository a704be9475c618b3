/-
  VisitsApart's walk.
-/
import Derived.Test.YtchdoamoeccjkaaVM7
import Derived.Test.YtchdoamoeccjkaaVM10
import Derived.Test.YtchdoamoeccjkaaVPure8
namespace Go.Proofs.Ytchdoamoeccjkaa
open Go.RowKit Go.Shelf Go.Mine Go.Mine.V
open Go.Mine.S (Sp good inL chkS uni fAnd fOr)
attribute [local go_sem] Oper.semAt_some

theorem Try_info40a : (Try.prog.info? 40).map (fun i => (i.zero, i.size, i.bytes)) = some (some (.agg #[.int .i64 0, .int .i64 0, .int .i64 0, .int .i64 0]), 4, 32) := by kernel_rfl
theorem viC_oneA (x : Vi) : ∀ u ∈ viC x, u.oneCell' = true := by
  intro u hu; simp [viC] at hu; rcases hu with rfl | rfl | rfl | rfl <;> rfl
theorem plain_take {l : List Vi} {k : Nat} {x : Vi} (hx : l[k]? = some x) : plainL (l.take (k + 1)) = if x.k = 2 then plainL (l.take k) else plainL (l.take k) ++ [plainV x] := by
  rw [take_of_get hx]
  unfold plainL
  rw [List.filter_append, List.map_append]
  by_cases h : x.k = 2 <;> simp [h]
theorem plain_ViS {l : List Vi} (h : ∀ x ∈ l, ViS x) : ∀ x ∈ plainL l, ViS x := fun x hx => by
  obtain ⟨y, hy, rfl⟩ := List.mem_map.1 hx
  have := h y (List.mem_filter.1 hy).1
  unfold plainV
  split
  · exact ⟨this.1, this.2.1, this.2.2.1, by show I64 0; unfold I64; omega⟩
  · exact this
set_option maxRecDepth 100000 in
set_option maxHeartbeats 8000000 in
theorem visitsApart_in (A : Option Addr) (c : Nat) (l : List Vi) (m1 m2 m3 : Nat) (w : World) (hS : Sl viC 4 w A c l) (hI : ∀ x ∈ l, ViS x) (hm1 : m1 < 256) (hm2 : m2 < 256) (hm3 : m3 < 256) (h : rightV l = true) :
    Calls Try.prog 13 #[.slice A l.length c, .int .u8 m1, .int .u8 m2, .int .u8 m3] w fun e w' => e = .returned (.bool true) ∧ Below w.heap.size w w' := by
  have KS := hide sane14_any
  have KR := hide (fun w (hS : Sl viC 4 w A c l) => by have := right26_any A c l w hS; rw [h] at this; exact this)
  obtain ⟨hll, hz⟩ := rightV_ok h
  have hw1 : inB (m1 : Int) 100000 = true := by rw [inB_iff]; omega
  have K20 := hide (fun (k : Nat) (hk : k < 32) w (hS : Sl viC 4 w A c l) => by
    have := Spans20_any A c l m1 k w hS hI
    have ha : argSL m1 k = true := by unfold argSL; rw [hw1, inB_iff.2 ⟨by omega, by omega⟩]; rfl
    rw [(span_ok hz ha).1, (span_ok hz ha).2] at this
    exact this)
  have KPl := hide (fun A' c' w (hS : Sl viC 4 w A' c' (plainL l)) => by
    have := Spans20_any A' c' (plainL l) m1 0 w hS (plain_ViS hI)
    have ha : argSL m1 0 = true := by unfold argSL; rw [hw1]; rfl
    rw [(span_ok (chk_plain hz) ha).1, (span_ok (chk_plain hz) ha).2, ← unis_online hz] at this
    exact this)
  have K42 := hide (fun (x y : Nat) A1 A2 c1 c2 w (h1 : Sl spc 2 w A1 c1 (spans m1 x l)) (h2 : Sl spc 2 w A2 c2 (spans m1 y l)) => by
    have l1 := spans_len l m1 x
    have l2 := spans_len l m1 y
    have := s39_any A1 A2 c1 c2 (spans m1 x l) (spans m1 y l) w h1 h2 (fun _ => by omega)
    have he : errS (spans m1 x l) (spans m1 y l) = 0 := by unfold errS; rw [if_pos (chkS_spans hz hll m1 x)]; exact chkS_spans hz hll m1 y
    unfold uniR at this
    rw [he, if_pos rfl] at this
    exact this)
  have K43 := hide (fun (k : Nat) (hk : k < 32) A1 A2 c1 c2 w (h1 : Sl spc 2 w A1 c1 (unis m1 l k)) (h2 : Sl spc 2 w A2 c2 (spans m1 k l)) => by
    have l1 := (chkS_unis hz hll m1 (show k ≤ 32 by omega)).2
    have l2 := spans_len l m1 k
    have := s37_any A1 A2 c1 c2 (unis m1 l k) (spans m1 k l) w h1 h2 (fun _ => by omega)
    have he : errS (unis m1 l k) (spans m1 k l) = 0 := by unfold errS; rw [if_pos (chkS_unis hz hll m1 (show k ≤ 32 by omega)).1]; exact chkS_spans hz hll m1 k
    unfold uniR at this
    rw [he, if_pos rfl, show uni fOr (unis m1 l k) (spans m1 k l) = unis m1 l (k + 1) from rfl] at this
    exact this)
  have KN := hide (fun (x y : Nat) (hxy : x ≠ y) => apart_no hz m1 (x := x) (y := y) (by omega))
  have KY := hide (fun (x : Nat) => apart_yes hz m1 x)
  have i2 : ((m2 : Int) % 32) = ((m2 % 32 : Nat) : Int) := by omega
  have i3 : ((m3 : Int) % 32) = ((m3 % 32 : Nat) : Int) := by omega
  have hX : m2 % 32 < 32 := Nat.mod_lt _ (by decide)
  have hY : m3 % 32 < 32 := Nat.mod_lt _ (by decide)
  obtain ⟨i0, hi, hz0, hz1, hz2⟩ := info_parts Try_info40a
  have HI := hide hi
  have hlc := hS.le
  have hc := hS.max
  have B0 := Below.refl w.heap.size w
  clear h hz hw1 hI hi
  generalize m2 % 32 = X at *
  generalize m3 % 32 = Y at *
  go_enter Try.func13, Try.ntmps13
  go_wp2_with fail
  refine (KS.out _).mono ?_
  rintro e w1 ⟨rfl, hb⟩
  have B1 := kcall B0 hb
  have s1 := hS.bel hb
  clear hb B0 KS hS
  go_wp2_with fail
  refine (KR.out _ s1).mono ?_
  rintro e w2 ⟨rfl, hb⟩
  have B2 := kcall B1 hb
  have s2 := s1.bel hb
  clear hb B1 s1 KR
  go_wp2_with fail
  with_reducible refine (K20.out X hX _ s2).mono ?_
  rintro e w3 ⟨A1, c1, rfl, X1, hb⟩
  have B3 := kcall B2 hb
  have s3 := s2.bel hb
  clear hb B2 s2
  go_wp2_with fail
  with_reducible refine (K20.out Y hY _ s3).mono ?_
  rintro e w4 ⟨A2, c2, rfl, X2, hb⟩
  have B4 := kcall B3 hb
  have s4 := s3.bel hb
  have X1 := X1.bel hb
  clear hb B3 s3
  go_wp2_with fail
  have KM := K42.out X Y A1 A2 c1 c2 w4 X1 X2
  clear K42
  have S4 := hide s4
  have HX1 := hide X1
  have HB4 := hide B4
  clear s4 X1 X2 B4
  have REST : ∀ (P : Prop), P → P := fun _ h => h
  clear REST
  by_cases hXY : X = Y
  · subst hXY
    rw [KY.out X] at KM
    have gn : ((X : Int) != (X : Int)) = false := by simp
    have ge : ((X : Int) == (X : Int)) = true := by simp
    have KM := hide KM
    clear KN KY
    generalize spans m1 X l = sx at *
    refine KM.out.mono ?_
    rintro e w5 ⟨A3, c3, rfl, X3, hb⟩
    have B5 := kcall HB4.out hb
    have s5 := S4.out.bel hb
    have K24 := hide (sameSpans24_any A3 A1 c3 c1 sx sx w5 X3 (HX1.out.bel hb))
    rw [decide_eq_true rfl] at K24
    clear hb S4 HB4 HX1 X3 KM
    go_wp2_with fail
    refine K24.out.mono ?_
    rintro e w6 ⟨rfl, hb⟩
    have B6 := hide (kcall B5 hb)
    have s6 := hide (s5.bel hb)
    clear hb B5 s5 K24
    go_wp2_with fail
    go_loopw [17, 94] (fun v i wr => ∃ k : Nat, k ≤ l.length ∧ i = .int .i64 k ∧ Below w6.heap.size w6 wr ∧ OwnL viC 4 40 wr w6.heap.size v (plainL (l.take k))) (fun _ i _ => l.length - (nI i).toNat)
    case atStart => exact ⟨0, by omega, rfl, Below.refl _ _, OwnL.nil _ _ _ _ _⟩
    case round =>
      obtain ⟨k, hk, rfl, hb, hO⟩ := hrel
      have hN := hb.size
      by_cases hlt : k < l.length
      · obtain ⟨x, b, off, hx, hdr, rfl, hbw, c0, c1', c2', c3'⟩ := Sl.vi_at (s6.out.bel hb) hlt
        have E := hide (plain_take hx)
        have hpl := plainL_length (l.take k)
        have htl := List.length_take_le k l
        obtain ⟨Ap, pp, hvp, -⟩ := hO.sl
        subst hvp
        have HO := hide hO
        have HB := hide hb
        clear hdr hx hO hb
        generalize plainL (l.take k) = la at *
        by_cases hk1 : x.k = 1
        · have E1 := hide (E.out.trans (by rw [if_neg (by omega), show plainV x = ⟨x.t, x.who, 1, 0⟩ by unfold plainV; rw [if_pos hk1, hk1]]))
          have g1 : (x.k == 1) = true := by simp [hk1]
          have g2 : (x.k != 2) = true := by simp [hk1]
          rw [hk1] at c2'
          clear E g1 g2 hk1
          go_wp2_with (at_builtin; refine wpList_push (y := (⟨x.t, x.who, 1, 0⟩ : Vi)) (l := la) rfl (.tmp 105) (.tmp 107) 22 rfl Try.underlying22 HI.out hz0 hz1 hz2 rfl (by decide) rfl ((HO.out.alloc _).alloc _) rfl (new_row1 _ _ _) rfl rfl (viC_oneA _) ?_ ?_ ?_ ?_)
          · simp only [maxLen]; omega
          · omega
          · first | omega | (simp; omega)
          · intro v' w9 hO9 hgr hat
            have FIN := hide (And.intro hO9 (Below.grown ((HB.out.alloc hN _).alloc (by simp; omega) _) hgr (by simp; omega) (fun g hg => (HO.out.blk hg).1)))
            clear hO9 hgr hat
            go_wp2
            go_roundw
            case rel => exact ⟨k + 1, by omega, by go_num, FIN.out.2, by rw [E1.out]; exact FIN.out.1⟩
            case measure => simp [nI]; omega
        · have g1 : (x.k == 1) = false := by simp [hk1]
          by_cases hk2 : x.k = 2
          · have E1 := hide (E.out.trans (if_pos hk2))
            have g2 : (x.k != 2) = false := by simp [hk2]
            have FIN := hide (And.intro (HO.out.alloc (.cells #[.int .i64 x.t, .int .i64 x.who, .int .i64 x.k, .int .i64 x.g] 40)) (HB.out.alloc hN (.cells #[.int .i64 x.t, .int .i64 x.who, .int .i64 x.k, .int .i64 x.g] 40)))
            clear E hk1 hk2
            go_wp2
            go_roundw
            case rel => exact ⟨k + 1, by omega, by go_num, FIN.out.2, by rw [E1.out]; exact FIN.out.1⟩
            case measure => simp [nI]; omega
          · have E1 := hide (E.out.trans (by rw [if_neg hk2, show plainV x = x by unfold plainV; rw [if_neg hk1]]))
            have g2 : (x.k != 2) = true := by simp [hk2]
            clear E hk1 hk2
            go_wp2_with (at_builtin; refine wpList_push (y := x) (l := la) rfl (.tmp 105) (.tmp 107) 22 rfl Try.underlying22 HI.out hz0 hz1 hz2 rfl (by decide) rfl ((HO.out.alloc _).alloc _) rfl (new_row1 _ _ _) rfl rfl (viC_oneA _) ?_ ?_ ?_ ?_)
            · simp only [maxLen]; omega
            · omega
            · first | omega | (simp; omega)
            · intro v' w9 hO9 hgr hat
              have FIN := hide (And.intro hO9 (Below.grown ((HB.out.alloc hN _).alloc (by simp; omega) _) hgr (by simp; omega) (fun g hg => (HO.out.blk hg).1)))
              clear hO9 hgr hat
              go_wp2
              go_roundw
              case rel => exact ⟨k + 1, by omega, by go_num, FIN.out.2, by rw [E1.out]; exact FIN.out.1⟩
              case measure => simp [nI]; omega
      · obtain rfl : k = l.length := by omega
        rw [List.take_length] at hO
        obtain ⟨Ap, pp, hvp, SP⟩ := hO.sl
        subst hvp
        have KP1 := hide (KPl.out Ap pp wr SP)
        have B7 := hide (kcall B6.out hb)
        have s7 := hide (s6.out.bel hb)
        clear hO hb SP s6 B6 KPl HI hz0 hz1 hz2
        generalize plainL l = pl at *
        obtain ⟨w7, hw7⟩ : ∃ x, x = wr := ⟨_, rfl⟩
        go_wp2_with fail
        refine KP1.out.mono ?_
        rintro e w8 ⟨A8, c8, rfl, X8, hb8⟩
        have B8 := hide (kcall B7.out hb8)
        have s8 := hide (s7.out.bel hb8)
        have HX8 := hide X8
        clear hb8 X8 B7 s7 KP1
        go_wp2_with fail
        go_loopw [22, 117] (fun v i wq => ∃ (k : Nat) (A' : Option Addr) (c' : Nat), k ≤ 32 ∧ i = .int .i64 k ∧ v = .slice A' (unis m1 l k).length c' ∧ Sl spc 2 wq A' c' (unis m1 l k) ∧ Below w8.heap.size w8 wq) (fun _ i _ => 32 - (nI i).toNat)
        case atStart => exact ⟨0, none, 0, by omega, rfl, rfl, Sl.nil (by decide), Below.refl _ _⟩
        case round =>
          obtain ⟨k, A', c', hk, rfl, rfl, hU, hb⟩ := hrel
          have s9 := s8.out.bel hb
          by_cases hlt : k < 32
          · have gk : decide ((k : Int) < 32) = true := by simp; omega
            have KK := hide (K20.out k hlt)
            have KU := hide (K43.out k hlt)
            have HB := hide hb
            have HU := hide hU
            clear hU hb K20 K43
            generalize spans m1 k l = sk at *
            generalize unis m1 l k = u0 at *
            go_wp2_with fail
            refine (KK.out _ s9).mono ?_
            rintro e w10 ⟨A10, c10, rfl, X10, hb⟩
            have B10 := kcall HB.out hb
            have U10 := HU.out.bel hb
            clear hb HB HU s9
            go_wp2_with fail
            refine (KU.out _ _ _ _ _ U10 X10).mono ?_
            rintro e w11 ⟨A11, c11, rfl, X11, hb⟩
            have FIN := hide (And.intro X11 (kcall B10 hb))
            clear hb B10 U10 X10 X11 KU KK
            go_wp2
            go_roundw
            case rel => exact ⟨k + 1, A11, c11, by omega, by go_num, rfl, FIN.out.1, FIN.out.2⟩
            case measure => simp [nI]; omega
          · obtain rfl : k = 32 := by omega
            have K24 := hide (sameSpans24_any A' A8 c' c8 (unis m1 l 32) (unis m1 l 32) wr hU (HX8.out.bel hb))
            rw [decide_eq_true rfl] at K24
            have B9 := hide (kcall B8.out hb)
            clear hU hb HX8 s8 s9 B8 K20 K43
            generalize unis m1 l 32 = u0 at *
            go_wp2_with fail
            refine K24.out.mono ?_
            rintro e w10 ⟨rfl, hb⟩
            have B10 := hide (kcall B9.out hb)
            clear hb B9 K24
            go_wp2
            go_ret
            exact ⟨ret_bool (by simp), B10.out⟩
  · rw [KN.out X Y hXY] at KM
    have gn : ((X : Int) != (Y : Int)) = true := by simp; omega
    have ge : ((X : Int) == (Y : Int)) = false := by simp; omega
    have KM := hide KM
    clear KN KY hXY
    simp only [List.length_nil] at KM
    refine KM.out.mono ?_
    rintro e w6 ⟨A3, c3, rfl, -, hb⟩
    have B6 := hide (kcall HB4.out hb)
    have s6 := hide (S4.out.bel hb)
    clear hb S4 HB4 HX1 KM
    go_wp2_with fail
    go_loopw [17, 94] (fun v i wr => ∃ k : Nat, k ≤ l.length ∧ i = .int .i64 k ∧ Below w6.heap.size w6 wr ∧ OwnL viC 4 40 wr w6.heap.size v (plainL (l.take k))) (fun _ i _ => l.length - (nI i).toNat)
    case atStart => exact ⟨0, by omega, rfl, Below.refl _ _, OwnL.nil _ _ _ _ _⟩
    case round =>
      obtain ⟨k, hk, rfl, hb, hO⟩ := hrel
      have hN := hb.size
      by_cases hlt : k < l.length
      · obtain ⟨x, b, off, hx, hdr, rfl, hbw, c0, c1', c2', c3'⟩ := Sl.vi_at (s6.out.bel hb) hlt
        have E := hide (plain_take hx)
        have hpl := plainL_length (l.take k)
        have htl := List.length_take_le k l
        obtain ⟨Ap, pp, hvp, -⟩ := hO.sl
        subst hvp
        have HO := hide hO
        have HB := hide hb
        clear hdr hx hO hb
        generalize plainL (l.take k) = la at *
        by_cases hk1 : x.k = 1
        · have E1 := hide (E.out.trans (by rw [if_neg (by omega), show plainV x = ⟨x.t, x.who, 1, 0⟩ by unfold plainV; rw [if_pos hk1, hk1]]))
          have g1 : (x.k == 1) = true := by simp [hk1]
          have g2 : (x.k != 2) = true := by simp [hk1]
          rw [hk1] at c2'
          clear E g1 g2 hk1
          go_wp2_with (at_builtin; refine wpList_push (y := (⟨x.t, x.who, 1, 0⟩ : Vi)) (l := la) rfl (.tmp 105) (.tmp 107) 22 rfl Try.underlying22 HI.out hz0 hz1 hz2 rfl (by decide) rfl ((HO.out.alloc _).alloc _) rfl (new_row1 _ _ _) rfl rfl (viC_oneA _) ?_ ?_ ?_ ?_)
          · simp only [maxLen]; omega
          · omega
          · first | omega | (simp; omega)
          · intro v' w9 hO9 hgr hat
            have FIN := hide (And.intro hO9 (Below.grown ((HB.out.alloc hN _).alloc (by simp; omega) _) hgr (by simp; omega) (fun g hg => (HO.out.blk hg).1)))
            clear hO9 hgr hat
            go_wp2
            go_roundw
            case rel => exact ⟨k + 1, by omega, by go_num, FIN.out.2, by rw [E1.out]; exact FIN.out.1⟩
            case measure => simp [nI]; omega
        · have g1 : (x.k == 1) = false := by simp [hk1]
          by_cases hk2 : x.k = 2
          · have E1 := hide (E.out.trans (if_pos hk2))
            have g2 : (x.k != 2) = false := by simp [hk2]
            have FIN := hide (And.intro (HO.out.alloc (.cells #[.int .i64 x.t, .int .i64 x.who, .int .i64 x.k, .int .i64 x.g] 40)) (HB.out.alloc hN (.cells #[.int .i64 x.t, .int .i64 x.who, .int .i64 x.k, .int .i64 x.g] 40)))
            clear E hk1 hk2
            go_wp2
            go_roundw
            case rel => exact ⟨k + 1, by omega, by go_num, FIN.out.2, by rw [E1.out]; exact FIN.out.1⟩
            case measure => simp [nI]; omega
          · have E1 := hide (E.out.trans (by rw [if_neg hk2, show plainV x = x by unfold plainV; rw [if_neg hk1]]))
            have g2 : (x.k != 2) = true := by simp [hk2]
            clear E hk1 hk2
            go_wp2_with (at_builtin; refine wpList_push (y := x) (l := la) rfl (.tmp 105) (.tmp 107) 22 rfl Try.underlying22 HI.out hz0 hz1 hz2 rfl (by decide) rfl ((HO.out.alloc _).alloc _) rfl (new_row1 _ _ _) rfl rfl (viC_oneA _) ?_ ?_ ?_ ?_)
            · simp only [maxLen]; omega
            · omega
            · first | omega | (simp; omega)
            · intro v' w9 hO9 hgr hat
              have FIN := hide (And.intro hO9 (Below.grown ((HB.out.alloc hN _).alloc (by simp; omega) _) hgr (by simp; omega) (fun g hg => (HO.out.blk hg).1)))
              clear hO9 hgr hat
              go_wp2
              go_roundw
              case rel => exact ⟨k + 1, by omega, by go_num, FIN.out.2, by rw [E1.out]; exact FIN.out.1⟩
              case measure => simp [nI]; omega
      · obtain rfl : k = l.length := by omega
        rw [List.take_length] at hO
        obtain ⟨Ap, pp, hvp, SP⟩ := hO.sl
        subst hvp
        have KP1 := hide (KPl.out Ap pp wr SP)
        have B7 := hide (kcall B6.out hb)
        have s7 := hide (s6.out.bel hb)
        clear hO hb SP s6 B6 KPl HI hz0 hz1 hz2
        generalize plainL l = pl at *
        obtain ⟨w7, hw7⟩ : ∃ x, x = wr := ⟨_, rfl⟩
        go_wp2_with fail
        refine KP1.out.mono ?_
        rintro e w8 ⟨A8, c8, rfl, X8, hb8⟩
        have B8 := hide (kcall B7.out hb8)
        have s8 := hide (s7.out.bel hb8)
        have HX8 := hide X8
        clear hb8 X8 B7 s7 KP1
        go_wp2_with fail
        go_loopw [22, 117] (fun v i wq => ∃ (k : Nat) (A' : Option Addr) (c' : Nat), k ≤ 32 ∧ i = .int .i64 k ∧ v = .slice A' (unis m1 l k).length c' ∧ Sl spc 2 wq A' c' (unis m1 l k) ∧ Below w8.heap.size w8 wq) (fun _ i _ => 32 - (nI i).toNat)
        case atStart => exact ⟨0, none, 0, by omega, rfl, rfl, Sl.nil (by decide), Below.refl _ _⟩
        case round =>
          obtain ⟨k, A', c', hk, rfl, rfl, hU, hb⟩ := hrel
          have s9 := s8.out.bel hb
          by_cases hlt : k < 32
          · have gk : decide ((k : Int) < 32) = true := by simp; omega
            have KK := hide (K20.out k hlt)
            have KU := hide (K43.out k hlt)
            have HB := hide hb
            have HU := hide hU
            clear hU hb K20 K43
            generalize spans m1 k l = sk at *
            generalize unis m1 l k = u0 at *
            go_wp2_with fail
            refine (KK.out _ s9).mono ?_
            rintro e w10 ⟨A10, c10, rfl, X10, hb⟩
            have B10 := kcall HB.out hb
            have U10 := HU.out.bel hb
            clear hb HB HU s9
            go_wp2_with fail
            refine (KU.out _ _ _ _ _ U10 X10).mono ?_
            rintro e w11 ⟨A11, c11, rfl, X11, hb⟩
            have FIN := hide (And.intro X11 (kcall B10 hb))
            clear hb B10 U10 X10 X11 KU KK
            go_wp2
            go_roundw
            case rel => exact ⟨k + 1, A11, c11, by omega, by go_num, rfl, FIN.out.1, FIN.out.2⟩
            case measure => simp [nI]; omega
          · obtain rfl : k = 32 := by omega
            have K24 := hide (sameSpans24_any A' A8 c' c8 (unis m1 l 32) (unis m1 l 32) wr hU (HX8.out.bel hb))
            rw [decide_eq_true rfl] at K24
            have B9 := hide (kcall B8.out hb)
            clear hU hb HX8 s8 s9 B8 K20 K43
            generalize unis m1 l 32 = u0 at *
            go_wp2_with fail
            refine K24.out.mono ?_
            rintro e w10 ⟨rfl, hb⟩
            have B10 := hide (kcall B9.out hb)
            clear hb B9 K24
            go_wp2
            go_ret
            exact ⟨ret_bool (by simp), B10.out⟩
set_option maxRecDepth 100000 in
set_option maxHeartbeats 4000000 in
theorem visitsApart_law (A : Option Addr) (c : Nat) (l : List Vi) (m1 m2 m3 : Nat) (w : World) (hS : Sl viC 4 w A c l) (hI : ∀ x ∈ l, ViS x) (hm1 : m1 < 256) (hm2 : m2 < 256) (hm3 : m3 < 256) :
    Calls Try.prog 13 #[.slice A l.length c, .int .u8 m1, .int .u8 m2, .int .u8 m3] w fun e w' => e = .returned (.bool true) ∧ Below w.heap.size w w' := by
  by_cases h : rightV l = true
  · exact visitsApart_in A c l m1 m2 m3 w hS hI hm1 hm2 hm3 h
  · have h : rightV l = false := by simpa using h
    have KS := hide sane14_any
    have KR := hide (fun w (hS : Sl viC 4 w A c l) => right26_any A c l w hS)
    rw [h] at KR
    clear h hI
    go_enter Try.func13, Try.ntmps13
    go_wp2_with fail
    refine (KS.out _).mono ?_
    rintro e w1 ⟨rfl, hb⟩
    have s1 := hS.bel hb
    go_wp2_with fail
    refine (KR.out _ s1).mono ?_
    rintro e w2 ⟨rfl, hb2⟩
    have B2 := hide (kcall hb hb2)
    clear hb hb2 s1 KS KR
    go_wp2
    go_ret
    exact ⟨rfl, B2.out⟩
end Go.Proofs.Ytchdoamoeccjkaa

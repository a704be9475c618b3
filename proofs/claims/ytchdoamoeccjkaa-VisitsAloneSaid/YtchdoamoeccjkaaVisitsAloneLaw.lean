/-
  VisitsAlone's walk.
-/
import Derived.Test.YtchdoamoeccjkaaVM7
import Derived.Test.YtchdoamoeccjkaaVM1
namespace Go.Proofs.Ytchdoamoeccjkaa
open Go.RowKit Go.Shelf Go.Mine Go.Mine.V
attribute [local go_sem] Oper.semAt_some

theorem Try_info40 : (Try.prog.info? 40).map (fun i => (i.zero, i.size, i.bytes)) = some (some (.agg #[.int .i64 0, .int .i64 0, .int .i64 0, .int .i64 0]), 4, 32) := by kernel_rfl
theorem ftake_yes {α : Type} (p : α → Bool) {l : List α} {k : Nat} {x : α} (hx : l[k]? = some x) (hp : p x = true) : (l.take (k + 1)).filter p = (l.take k).filter p ++ [x] := by
  rw [take_of_get hx, List.filter_append]; simp [hp]
theorem ftake_no {α : Type} (p : α → Bool) {l : List α} {k : Nat} {x : α} (hx : l[k]? = some x) (hp : p x = false) : (l.take (k + 1)).filter p = (l.take k).filter p := by
  rw [take_of_get hx, List.filter_append]; simp [hp]
theorem ftake_len {α : Type} (p : α → Bool) (l : List α) (k : Nat) : ((l.take k).filter p).length ≤ l.length := Nat.le_trans (List.length_filter_le _ _) (List.length_take_le' _ _)
def ownP (n : Int) (x : Vi) : Bool := decide (x.who = n)
def earP (t : Int) (x : Vi) : Bool := decide (x.t ≤ t)
def viA (x : Vi) : Array Value := #[.int .i64 x.t, .int .i64 x.who, .int .i64 x.k, .int .i64 x.g]
theorem viC_one (x : Vi) : ∀ u ∈ viC x, u.oneCell' = true := by
  intro u hu; simp [viC] at hu; rcases hu with rfl | rfl | rfl | rfl <;> rfl
/-- the two rows side by side, through a push onto one of them -/
theorem two_rows {B : Nat} {w0 X w3 : World} {v v' u : Value} {la la' lb : List Vi} (hb : Below B w0 X) (hBX : B ≤ X.heap.size) (hO : OwnL viC 4 40 X B v la) (hU : OwnL viC 4 40 X B u lb) (hd : ∀ g, v.ownBlock = some g → u.ownBlock ≠ some g)
    (hO3 : OwnL viC 4 40 w3 B v' la') (hg : X.grownBy w3 v.ownBlock) (hat : ∀ g, v'.ownBlock = some g → v.ownBlock = some g ∨ X.heap.size ≤ g) :
    OwnL viC 4 40 w3 B u lb ∧ (∀ g, v'.ownBlock = some g → u.ownBlock ≠ some g) ∧ Below B w0 w3 ∧ X.heap.size ≤ w3.heap.size :=
  ⟨hU.keep fun g hg' => hg.block g (hU.blk hg').2.1 (fun e => hd g e.symm hg'),
   fun g hg' hu => by
     rcases hat g hg' with h | h
     · exact hd g h hu
     · have := (hU.blk hu).2.1; omega,
   Below.grown hb hg hBX (fun g hg' => (hO.blk hg').1), hg.size⟩
set_option maxRecDepth 100000 in
set_option maxHeartbeats 8000000 in
theorem visitsAlone_in (A : Option Addr) (c : Nat) (l : List Vi) (who lang t : Int) (m : Nat) (w : World) (hS : Sl viC 4 w A c l) (hI : ∀ x ∈ l, ViS x) (hm : m < 256) (h : rightV l = true) :
    Calls Try.prog 5 #[.slice A l.length c, .int .i64 who, .int .i64 lang, .int .i64 t, .int .u8 m] w fun e w' => e = .returned (.bool true) ∧ Below w.heap.size w w' := by
  have KS := hide sane14_any
  have KR := hide (fun w (hS : Sl viC 4 w A c l) => right26_any A c l w hS)
  rw [h] at KR
  obtain ⟨hll, hz⟩ := rightV_ok h
  have hso := (chkGo_sorted (chk_go hz).1).2
  have eE : l.filter (earP t) = vEarly t l := filter_early t hso
  have eO : l.filter (ownP who) = own who l := rfl
  have hIE : ∀ x ∈ l.filter (earP t), ViS x := fun x hx => hI x (List.mem_filter.1 hx).1
  have hIO : ∀ x ∈ l.filter (ownP who), ViS x := fun x hx => hI x (List.mem_filter.1 hx).1
  have K1 := hide (fun w (hS : Sl viC 4 w A c l) => by have := Sees16_any A c l who t w hS hI; unfold tup3 at this; exact this)
  have K2 := hide (fun A' c' w (hS : Sl viC 4 w A' c' (l.filter (earP t))) => by
    have := Sees16_any A' c' (l.filter (earP t)) who t w hS hIE
    unfold tup3 at this
    rw [eE, (sees_early hz who t).1, (sees_early hz who t).2.1, (sees_early hz who t).2.2, ← eE] at this
    exact this)
  have K3 := hide (fun A' c' w (hS : Sl viC 4 w A' c' (l.filter (ownP who))) => by
    have := Sees16_any A' c' (l.filter (ownP who)) who t w hS hIO
    unfold tup3 at this
    rw [eO, (sees_own hz who t).1, (sees_own hz who t).2.1, (sees_own hz who t).2.2, ← eO] at this
    exact this)
  have K4 := hide (fun w (hS : Sl viC 4 w A c l) => Spans20_any A c l who lang w hS hI)
  have K5 := hide (fun A' c' w (hS : Sl viC 4 w A' c' (l.filter (ownP who))) => by
    have := Spans20_any A' c' (l.filter (ownP who)) who lang w hS hIO
    have e1 : spanL (own who l) who lang = spanL l who lang := by unfold spanL; rw [chk_own hz, hz, spans_own]
    have e2 : spanE (own who l) who lang = spanE l who lang := by unfold spanE; rw [chk_own hz, hz]
    rw [eO, e1, e2, ← eO] at this
    exact this)
  have K6 := hide (fun w (hS : Sl viC 4 w A c l) => Present22_any A c l lang t w hS hI)
  have K7 := hide (fun A' c' w (hS : Sl viC 4 w A' c' (l.filter (earP t))) => by
    have := Present22_any A' c' (l.filter (earP t)) lang t w hS hIE
    have e1 : presL (vEarly t l) lang t = presL l lang t := by unfold presL; rw [chk_early hz, hz, pres_early]
    have e2 : presE (vEarly t l) lang t = presE l lang t := by unfold presE; rw [chk_early hz, hz]
    rw [eE, e1, e2, ← eE] at this
    exact this)
  have hmod : m % (l.length + 1) ≤ l.length := by have := Nat.mod_lt m (show 0 < l.length + 1 by omega); omega
  have K8 := hide (fun w (hS : Sl viC 4 w A c l) => by
    have := Check_any A c (l.take (m % (l.length + 1))) w (Sl.take_ hS _) (fun x hx => hI x (List.mem_of_mem_take hx))
    rw [chk_take hz, List.length_take, Nat.min_eq_left hmod] at this
    exact this)
  generalize seesG l who t = r1 at *
  generalize seesO l who t = r2 at *
  generalize seesE l who t = r3 at *
  generalize spanL l who lang = s at *
  generalize spanE l who lang = se at *
  generalize presL l lang t = p at *
  generalize presE l lang t = pe at *
  obtain ⟨i0, hi, hz0, hz1, hz2⟩ := info_parts Try_info40
  have HI := hide hi
  have hlc := hS.le
  have hc := hS.max
  clear hi h hz hso hIE hIO hI eE eO
  have B0 := Below.refl w.heap.size w
  go_enter Try.func5, Try.ntmps5
  go_wp2_with fail
  refine (KS.out _).mono ?_
  rintro e w1 ⟨rfl, hb⟩
  have B1 := kcall B0 hb
  have s1 := hS.bel hb
  clear hb B0 KS
  go_wp2_with fail
  refine (KR.out _ s1).mono ?_
  rintro e w2 ⟨rfl, hb⟩
  have B2 := hide (kcall B1 hb)
  have s2 := hide (s1.bel hb)
  clear hb B1 s1 KR hS
  go_wp2_with fail
  go_loopw [11, 12, 39] (fun v u i wr => ∃ k : Nat, k ≤ l.length ∧ i = .int .i64 k ∧ Below w2.heap.size w2 wr ∧ OwnL viC 4 40 wr w2.heap.size v ((l.take k).filter (ownP who)) ∧ OwnL viC 4 40 wr w2.heap.size u ((l.take k).filter (earP t)) ∧ (∀ g, v.ownBlock = some g → u.ownBlock ≠ some g)) (fun _ _ i _ => l.length - (nI i).toNat)
  case atStart => exact ⟨0, by omega, rfl, Below.refl _ _, OwnL.nil _ _ _ _ _, OwnL.nil _ _ _ _ _, by simp [Value.ownBlock]⟩
  case round =>
    obtain ⟨k, hk, rfl, hb, hO, hU, hd⟩ := hrel
    have hN := hb.size
    by_cases hlt : k < l.length
    · obtain ⟨x, b, off, hx, hdr, rfl, hbw, c0, c1, c2, c3⟩ := Sl.vi_at (s2.out.bel hb) hlt
      clear hdr
      have l1 := ftake_len (ownP who) l k
      have l2 := ftake_len (earP t) l k
      have HD := hide hd
      have HB := hide hb
      obtain ⟨A1, p1, hv1, -⟩ := hO.sl
      obtain ⟨A2, p2, hv2, -⟩ := hU.sl
      subst hv1 hv2
      have HO := hide hO
      have HU := hide hU
      by_cases hn : x.who = who
      · have g1 : (x.who == who) = true := by simp [hn]
        have e1 := hide (ftake_yes (ownP who) hx (by simp [ownP, hn]))
        by_cases ht : x.t ≤ t
        · have g2 : decide (x.t ≤ t) = true := by simpa using ht
          have e2 := hide (ftake_yes (earP t) hx (by simp [earP, ht]))
          generalize (l.take k).filter (ownP who) = la at *
          generalize (l.take k).filter (earP t) = lb at *
          clear hO hU hd hx hn ht hb
          go_wp2_with (at_builtin; refine wpList_push (y := x) (l := la) rfl (.tmp 47) (.tmp 49) 22 rfl Try.underlying22 HI.out hz0 hz1 hz2 rfl (by decide) rfl ((HO.out.alloc _).alloc _) rfl (new_row1 _ _ _) rfl rfl (viC_one x) ?_ ?_ ?_ ?_)
          · simp only [maxLen]; omega
          · omega
          · first | omega | (simp; omega)
          · intro v' w3 hO3 hgr hat
            obtain ⟨hU3, hd3, hb3, hz3⟩ := two_rows (X := (wr.alloc (.cells (viA x) 40)).alloc (.cells (viA x) 40)) ((HB.out.alloc hN _).alloc (by simp; omega) _) (by simp; omega) ((HO.out.alloc _).alloc _) ((HU.out.alloc _).alloc _) HD.out hO3 hgr (by simpa using hat)
            have bx : Blk w3 wr.heap.size 40 (viA x) := Blk.grown ((Blk.new wr _ _).alloc _) hgr (fun e => by have := (HO.out.blk e.symm).2.1; omega)
            have x0 := bx.cell (v := .int .i64 x.t) 0 rfl
            have x1 := bx.cell (v := .int .i64 x.who) 1 rfl
            have x2 := bx.cell (v := .int .i64 x.k) 2 rfl
            have x3 := bx.cell (v := .int .i64 x.g) 3 rfl
            have hbl := bx.lt
            have hN3 := hb3.size
            obtain ⟨A3, p3, hv3, -⟩ := hO3.sl
            rw [List.length_append, show [x].length = 1 from rfl] at hv3
            subst hv3
            have HO3 := hide hO3
            have HU3 := hide hU3
            have HD3 := hide hd3
            have HB3 := hide hb3
            clear hgr hat bx HO HU HD hO3 hU3 hd3 hb3
            go_wp2_with (at_builtin; refine wpList_push (y := x) (l := lb) rfl (.tmp 55) (.tmp 57) 22 rfl Try.underlying22 HI.out hz0 hz1 hz2 rfl (by decide) rfl (HU3.out.alloc _) rfl (heap_new _ _) rfl rfl (viC_one x) ?_ ?_ ?_ ?_)
            · simp only [maxLen]; omega
            · omega
            · first | omega | (simp; omega)
            · intro u' w4 hU4 hgr hat
              obtain ⟨hO4, hd4, hb4, _⟩ := two_rows (X := w3.alloc (.cells (viA x) 40)) (HB3.out.alloc hN3 _) (by simp; omega) (HU3.out.alloc _) (HO3.out.alloc _) (fun g hg hv => HD3.out g hv hg) hU4 hgr (by simpa using hat)
              have FIN := hide (And.intro hb4 (And.intro hO4 (And.intro hU4 (fun g hg hu => hd4 g hu hg))))
              clear hgr hat hO4 hd4 hb4 hU4
              go_wp2
              go_roundw
              case rel => exact ⟨k + 1, by omega, by go_num, FIN.out.1, by rw [e1.out]; exact FIN.out.2.1, by rw [e2.out]; exact FIN.out.2.2.1, FIN.out.2.2.2⟩
              case measure => simp [nI]; omega
        · have g2 : decide (x.t ≤ t) = false := by simpa using ht
          have e2 := hide (ftake_no (earP t) hx (by simp [earP, ht]))
          generalize (l.take k).filter (ownP who) = la at *
          generalize (l.take k).filter (earP t) = lb at *
          clear hO hU hd hx hn ht hb
          go_wp2_with (at_builtin; refine wpList_push (y := x) (l := la) rfl (.tmp 47) (.tmp 49) 22 rfl Try.underlying22 HI.out hz0 hz1 hz2 rfl (by decide) rfl ((HO.out.alloc _).alloc _) rfl (new_row1 _ _ _) rfl rfl (viC_one x) ?_ ?_ ?_ ?_)
          · simp only [maxLen]; omega
          · omega
          · first | omega | (simp; omega)
          · intro v' w3 hO3 hgr hat
            obtain ⟨hU3, hd3, hb3, hz3⟩ := two_rows (X := (wr.alloc (.cells (viA x) 40)).alloc (.cells (viA x) 40)) ((HB.out.alloc hN _).alloc (by simp; omega) _) (by simp; omega) ((HO.out.alloc _).alloc _) ((HU.out.alloc _).alloc _) HD.out hO3 hgr (by simpa using hat)
            have bx : Blk w3 wr.heap.size 40 (viA x) := Blk.grown ((Blk.new wr _ _).alloc _) hgr (fun e => by have := (HO.out.blk e.symm).2.1; omega)
            have x0 := bx.cell (v := .int .i64 x.t) 0 rfl
            have x1 := bx.cell (v := .int .i64 x.who) 1 rfl
            have x2 := bx.cell (v := .int .i64 x.k) 2 rfl
            have x3 := bx.cell (v := .int .i64 x.g) 3 rfl
            have hbl := bx.lt
            have hN3 := hb3.size
            obtain ⟨A3, p3, hv3, -⟩ := hO3.sl
            rw [List.length_append, show [x].length = 1 from rfl] at hv3
            subst hv3
            have HO3 := hide hO3
            have HU3 := hide hU3
            have HD3 := hide hd3
            have HB3 := hide hb3
            clear hgr hat bx HO HU HD hO3 hU3 hd3 hb3
            go_wp2
            go_roundw
            case rel => exact ⟨k + 1, by omega, by go_num, HB3.out, by rw [e1.out]; exact HO3.out, by rw [e2.out]; exact HU3.out, HD3.out⟩
            case measure => simp [nI]; omega
      · have g1 : (x.who == who) = false := by simp [hn]
        have e1 := hide (ftake_no (ownP who) hx (by simp [ownP, hn]))
        by_cases ht : x.t ≤ t
        · have g2 : decide (x.t ≤ t) = true := by simpa using ht
          have e2 := hide (ftake_yes (earP t) hx (by simp [earP, ht]))
          generalize (l.take k).filter (ownP who) = la at *
          generalize (l.take k).filter (earP t) = lb at *
          clear hO hU hd hx hn ht hb
          have HO3 := hide (HO.out.alloc (.cells (viA x) 40))
          have HU3 := hide (HU.out.alloc (.cells (viA x) 40))
          have HD3 := hide HD.out
          have HB3 := hide (HB.out.alloc hN (.cells (viA x) 40))
          go_wp2_with (at_builtin; refine wpList_push (y := x) (l := lb) rfl (.tmp 55) (.tmp 57) 22 rfl Try.underlying22 HI.out hz0 hz1 hz2 rfl (by decide) rfl (HU3.out.alloc _) rfl (new_row1 _ _ _) rfl rfl (viC_one x) ?_ ?_ ?_ ?_)
          · simp only [maxLen]; omega
          · omega
          · first | omega | (simp; omega)
          · intro u' w4 hU4 hgr hat
            obtain ⟨hO4, hd4, hb4, _⟩ := two_rows (X := (wr.alloc (.cells (viA x) 40)).alloc (.cells (viA x) 40)) (HB3.out.alloc (by simp; omega) _) (by simp; omega) (HU3.out.alloc _) (HO3.out.alloc _) (fun g hg hv => HD3.out g hv hg) hU4 hgr (by simpa using hat)
            have FIN := hide (And.intro hb4 (And.intro hO4 (And.intro hU4 (fun g hg hu => hd4 g hu hg))))
            clear hgr hat hO4 hd4 hb4 hU4
            go_wp2
            go_roundw
            case rel => exact ⟨k + 1, by omega, by go_num, FIN.out.1, by rw [e1.out]; exact FIN.out.2.1, by rw [e2.out]; exact FIN.out.2.2.1, FIN.out.2.2.2⟩
            case measure => simp [nI]; omega
        · have g2 : decide (x.t ≤ t) = false := by simpa using ht
          have e2 := hide (ftake_no (earP t) hx (by simp [earP, ht]))
          generalize (l.take k).filter (ownP who) = la at *
          generalize (l.take k).filter (earP t) = lb at *
          clear hO hU hd hx hn ht hb
          have HO3 := hide (HO.out.alloc (.cells (viA x) 40))
          have HU3 := hide (HU.out.alloc (.cells (viA x) 40))
          have HD3 := hide HD.out
          have HB3 := hide (HB.out.alloc hN (.cells (viA x) 40))
          go_wp2
          go_roundw
          case rel => exact ⟨k + 1, by omega, by go_num, HB3.out, by rw [e1.out]; exact HO3.out, by rw [e2.out]; exact HU3.out, HD3.out⟩
          case measure => simp [nI]; omega
    · obtain rfl : k = l.length := by omega
      rw [List.take_length] at hO hU
      obtain ⟨A1, p1, hv1, SO⟩ := hO.sl
      obtain ⟨A2, p2, hv2, SE⟩ := hU.sl
      subst hv1 hv2
      have S3 := s2.out.bel hb
      have B3 := kcall B2.out hb
      clear hO hU hd hb s2
      generalize l.filter (ownP who) = ow at *
      generalize l.filter (earP t) = ea at *
      go_wp2_with fail
      refine (K1.out _ S3).mono ?_
      rintro e w3 ⟨rfl, hb⟩
      have B4 := kcall B3 hb
      have S4 := S3.bel hb
      have SO := SO.bel hb
      have SE := SE.bel hb
      clear hb B3 S3 K1
      go_wp2_with fail
      refine (K2.out _ _ _ SE).mono ?_
      rintro e w4 ⟨rfl, hb⟩
      have B5 := kcall B4 hb
      have S5 := S4.bel hb
      have SO := SO.bel hb
      have SE := SE.bel hb
      clear hb B4 S4 K2
      go_wp2_with fail
      refine (K3.out _ _ _ SO).mono ?_
      rintro e w5 ⟨rfl, hb⟩
      have B6 := kcall B5 hb
      have S6 := S5.bel hb
      have SO := SO.bel hb
      have SE := SE.bel hb
      clear hb B5 S5 K3
      go_wp2_with fail
      refine (K4.out _ S6).mono ?_
      rintro e w6 ⟨A3, c3, rfl, X1, hb⟩
      have B7 := kcall B6 hb
      have S7 := S6.bel hb
      have SO := SO.bel hb
      have SE := SE.bel hb
      clear hb B6 S6 K4
      go_wp2_with fail
      refine (K5.out _ _ _ SO).mono ?_
      rintro e w7 ⟨A4, c4, rfl, X2, hb⟩
      have B8 := kcall B7 hb
      have S8 := S7.bel hb
      have SE := SE.bel hb
      have X1 := X1.bel hb
      clear hb B7 S7 K5 SO
      go_wp2_with fail
      refine (K6.out _ S8).mono ?_
      rintro e w8 ⟨A5, c5, rfl, X3, hb⟩
      have B9 := kcall B8 hb
      have S9 := S8.bel hb
      have SE := SE.bel hb
      have X1 := X1.bel hb
      have X2 := X2.bel hb
      clear hb B8 S8 K6
      go_wp2_with fail
      refine (K7.out _ _ _ SE).mono ?_
      rintro e w9 ⟨A6, c6, rfl, X4, hb⟩
      have B10 := kcall B9 hb
      have S10 := S9.bel hb
      have X1 := X1.bel hb
      have X2 := X2.bel hb
      have X3 := X3.bel hb
      have K24 := hide (sameSpans24_any A3 A4 c3 c4 s s w9 X1 X2)
      rw [decide_eq_true rfl] at K24
      clear hb B9 S9 K7 SE X1 X2
      have q1 : (r1 != r1) = false := by simp
      have q2 : (r2 != r2) = false := by simp
      have q3 : (r3 != r3) = false := by simp
      have q4 : (se != se) = false := by simp
      have q5 : (pe != pe) = false := by simp
      go_wp2_with fail
      refine K24.out.mono ?_
      rintro e w10 ⟨rfl, hb⟩
      have B11 := kcall B10 hb
      have S11 := S10.bel hb
      have K25 := hide (sameInts25_any A5 A6 c5 c6 p p w10 (X3.bel hb) (X4.bel hb))
      rw [decide_eq_true rfl] at K25
      clear hb B10 S10 X3 X4 K24
      go_wp2_with fail
      refine K25.out.mono ?_
      rintro e w11 ⟨rfl, hb⟩
      have B12 := kcall B11 hb
      have S12 := S11.bel hb
      clear hb B11 S11 K25
      have i0' : ((m : Int) % ((l.length : Int) + 1)) = ((m % (l.length + 1) : Nat) : Int) := by first | (simp; done) | (rw [Int.natCast_emod]; simp; done) | (norm_cast)
      generalize m % (l.length + 1) = mm at *
      have j0 : (0 : Int) ≤ mm := by omega
      have j1 : (mm : Int) ≤ c := by omega
      have j2 : (mm : Int) ≤ l.length := by omega
      go_wp2_with fail
      refine (K8.out _ S12).mono ?_
      rintro e w12 ⟨rfl, hb⟩
      have B13 := hide (kcall B12 hb)
      clear hb B12 S12 K8
      go_wp2
      go_ret
      exact ⟨ret_bool (by simp), B13.out⟩
set_option maxRecDepth 100000 in
set_option maxHeartbeats 4000000 in
theorem visitsAlone_law (A : Option Addr) (c : Nat) (l : List Vi) (who lang t : Int) (m : Nat) (w : World) (hS : Sl viC 4 w A c l) (hI : ∀ x ∈ l, ViS x) (hm : m < 256) :
    Calls Try.prog 5 #[.slice A l.length c, .int .i64 who, .int .i64 lang, .int .i64 t, .int .u8 m] w fun e w' => e = .returned (.bool true) ∧ Below w.heap.size w w' := by
  by_cases h : rightV l = true
  · exact visitsAlone_in A c l who lang t m w hS hI hm h
  · have h : rightV l = false := by simpa using h
    have KS := hide sane14_any
    have KR := hide (fun w (hS : Sl viC 4 w A c l) => right26_any A c l w hS)
    rw [h] at KR
    clear h
    go_enter Try.func5, Try.ntmps5
    go_wp2_with fail
    refine (KS.out _).mono ?_
    rintro e w1 ⟨rfl, hb⟩
    have s1 := hS.bel hb
    go_wp2_with fail
    refine (KR.out _ s1).mono ?_
    rintro e w2 ⟨rfl, hb2⟩
    have B2 := hide (kcall hb hb2)
    clear hb hb2 s1 KS KR
    go_wp2
    go_ret
    exact ⟨rfl, B2.out⟩
end Go.Proofs.Ytchdoamoeccjkaa

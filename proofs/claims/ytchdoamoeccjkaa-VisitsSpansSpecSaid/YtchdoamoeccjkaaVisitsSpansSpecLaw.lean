/-
  VisitsSpansSpec's walk.
-/
import Derived.Test.YtchdoamoeccjkaaVM7
namespace Go.Proofs.Ytchdoamoeccjkaa
open Go.RowKit Go.Shelf Go.Mine Go.Mine.V
attribute [local go_sem] Oper.semAt_some
set_option maxRecDepth 100000 in
set_option maxHeartbeats 4000000 in
theorem visitsSpansSpec_law (A : Option Addr) (c : Nat) (l : List Vi) (who lang t : Int) (w : World) (hS : Sl viC 4 w A c l) (hI : ∀ x ∈ l, ViS x) :
    Calls Try.prog 4 #[.slice A l.length c, .int .i64 who, .int .i64 lang, .int .i64 t] w fun e w' => e = .returned (.bool true) ∧ Below w.heap.size w w' := by
  have KS := hide sane14_any
  have KF := hide (fun w (hS : Sl viC 4 w A c l) => few15_any A c l w hS)
  have K20 := hide (fun w (hS : Sl viC 4 w A c l) => Spans20_any A c l who lang w hS hI)
  have K21 := hide (fun w (hS : Sl viC 4 w A c l) => Spans21_any A c l who lang w hS)
  have K22 := hide (fun w (hS : Sl viC 4 w A c l) => Present22_any A c l lang t w hS hI)
  have K23 := hide (fun w (hS : Sl viC 4 w A c l) => Present23_any A c l lang t w hS)
  have B0 := Below.refl w.heap.size w
  generalize spanL l who lang = s at *
  generalize spanE l who lang = se at *
  generalize presL l lang t = p at *
  generalize presE l lang t = pe at *
  generalize few l = fw at *
  go_enter Try.func4, Try.ntmps4
  go_wp2_with fail
  refine (KS.out _).mono ?_
  rintro e w1 ⟨rfl, hb1⟩
  have B1 := kcall B0 hb1
  have S1 := hS.bel hb1
  clear B0 hS hb1 KS
  go_wp2_with fail
  refine (KF.out _ S1).mono ?_
  rintro e w2 ⟨rfl, rfl⟩
  cases fw
  · have HB := hide B1
    clear B1 S1
    go_wp2
    go_ret
    exact ⟨rfl, HB.out⟩
  · go_wp2_with fail
    refine (K20.out _ S1).mono ?_
    rintro e w3 ⟨A1, c1, rfl, X1, hb3⟩
    have B3 := kcall B1 hb3
    have S3 := S1.bel hb3
    clear B1 S1 hb3
    go_wp2_with fail
    refine (K21.out _ S3).mono ?_
    rintro e w4 ⟨A2, c2, rfl, X2, hb4⟩
    have B4 := kcall B3 hb4
    have S4 := S3.bel hb4
    have X1 := X1.bel hb4
    clear B3 S3 hb4
    go_wp2_with fail
    refine (K22.out _ S4).mono ?_
    rintro e w5 ⟨A3, c3, rfl, X3, hb5⟩
    have B5 := kcall B4 hb5
    have S5 := S4.bel hb5
    have X1 := X1.bel hb5
    have X2 := X2.bel hb5
    clear B4 S4 hb5
    go_wp2_with fail
    refine (K23.out _ S5).mono ?_
    rintro e w6 ⟨A4, c4, rfl, X4, hb6⟩
    have B6 := kcall B5 hb6
    have X1 := X1.bel hb6
    have X2 := X2.bel hb6
    have X3 := X3.bel hb6
    have K24 := hide (sameSpans24_any A1 A2 c1 c2 s s w6 X1 X2)
    rw [decide_eq_true rfl] at K24
    clear B5 S5 hb6
    go_wp2_with fail
    refine K24.out.mono ?_
    rintro e w7 ⟨rfl, hb7⟩
    have B7 := kcall B6 hb7
    have K25 := hide (sameInts25_any A3 A4 c3 c4 p p w7 (X3.bel hb7) (X4.bel hb7))
    rw [decide_eq_true rfl] at K25
    clear B6 hb7 X1 X2 X3 X4 K24
    have q1 : (se == se) = true := by simp
    go_wp2_with fail
    refine K25.out.mono ?_
    rintro e w8 ⟨rfl, hb8⟩
    have B8 := hide (kcall B7 hb8)
    clear B7 hb8 K25
    go_wp2
    go_ret
    exact ⟨ret_bool (by simp), B8.out⟩
end Go.Proofs.Ytchdoamoeccjkaa

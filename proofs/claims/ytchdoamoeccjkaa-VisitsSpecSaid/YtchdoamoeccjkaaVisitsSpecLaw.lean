/-
  VisitsSpec's walk.
-/
import Derived.Test.YtchdoamoeccjkaaVM7
namespace Go.Proofs.Ytchdoamoeccjkaa
open Go.RowKit Go.Shelf Go.Mine Go.Mine.V
attribute [local go_sem] Oper.semAt_some
set_option maxRecDepth 100000 in
set_option maxHeartbeats 4000000 in
theorem visitsSpec_law (A : Option Addr) (c : Nat) (l : List Vi) (who t : Int) (w : World) (hS : Sl viC 4 w A c l) (hI : ∀ x ∈ l, ViS x) :
    Calls Try.prog 3 #[.slice A l.length c, .int .i64 who, .int .i64 t] w fun e w' => e = .returned (.bool true) ∧ Below w.heap.size w w' := by
  have KS := hide sane14_any
  have KF := hide (fun w (hS : Sl viC 4 w A c l) => few15_any A c l w hS)
  have K16 := hide (fun w (hS : Sl viC 4 w A c l) => by have := Sees16_any A c l who t w hS hI; unfold tup3 at this; exact this)
  have K17 := hide (fun w (hS : Sl viC 4 w A c l) => by have := Sees17_any A c l who t w hS; unfold tup3 at this; exact this)
  have K18 := hide (fun w (hS : Sl viC 4 w A c l) => Check_any A c l w hS hI)
  have K19 := hide (fun w (hS : Sl viC 4 w A c l) => Check19_any A c l w hS)
  have B0 := Below.refl w.heap.size w
  generalize seesG l who t = r1 at *
  generalize seesO l who t = r2 at *
  generalize seesE l who t = r3 at *
  generalize chk l = s at *
  generalize few l = fw at *
  go_enter Try.func3, Try.ntmps3
  go_wp2_with fail
  refine (KS.out _).mono ?_
  rintro e w1 ⟨rfl, hb1⟩
  have B1 := kcall B0 hb1
  have S1 := hS.bel hb1
  clear B0 hS hb1 KS
  go_wp2_with fail
  refine (KF.out _ S1).mono ?_
  rintro e w2 ⟨rfl, rfl⟩
  cases fw
  · have HB := hide B1
    clear B1 S1
    go_wp2
    go_ret
    exact ⟨rfl, HB.out⟩
  · go_wp2_with fail
    refine (K16.out _ S1).mono ?_
    rintro e w3 ⟨rfl, hb3⟩
    have B3 := kcall B1 hb3
    have S3 := S1.bel hb3
    clear B1 S1 hb3
    go_wp2_with fail
    refine (K17.out _ S3).mono ?_
    rintro e w4 ⟨rfl, hb4⟩
    have B4 := kcall B3 hb4
    have S4 := S3.bel hb4
    clear B3 S3 hb4
    go_wp2_with fail
    refine (K18.out _ S4).mono ?_
    rintro e w5 ⟨rfl, hb5⟩
    have B5 := kcall B4 hb5
    have S5 := S4.bel hb5
    clear B4 S4 hb5
    go_wp2_with fail
    refine (K19.out _ S5).mono ?_
    rintro e w6 ⟨rfl, hb6⟩
    have B6 := hide (kcall B5 hb6)
    clear B5 S5 hb6
    have q1 : (s == s) = true := by simp
    have q2 : (r1 == r1) = true := by simp
    have q3 : (r2 == r2) = true := by simp
    have q4 : (r3 == r3) = true := by simp
    go_wp2
    go_ret
    exact ⟨ret_bool (by simp), B6.out⟩
end Go.Proofs.Ytchdoamoeccjkaa

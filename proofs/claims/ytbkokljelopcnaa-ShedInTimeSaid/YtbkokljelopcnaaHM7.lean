/-
  hansardlaw43's helpers: Shed and Fits at lists that are written out.
  hansardlaw43.sane answers true.
-/
import Derived.Test.YtbkokljelopcnaaHM6
import Derived.Test.YtbkokljelopcnaaJM7
namespace Go.Proofs.Ytbkokljelopcnaa
open Go.RowKit Go.Mine Go.Mine.Q
attribute [local go_sem] Oper.semAt_some
section
variable {A B : Option Addr} {c d : Nat} {l : List Jb} {w : World}
theorem shed_lit (hS : Sl jbC 5 w A c l) (n : Nat) (x : List Int) (k : Nat) (u v E : Int) (hn : l.length = n) (h1 : (if errH l = 0 then shedN l else []) = x) (hk : x.length = k) (h2 : (if errH l = 0 then shedW l else 0) = u) (h3 : (if errH l = 0 then shedA l else 0) = v) (h4 : errH l = E) :
    Calls Try.prog 31 #[.slice A n c] w fun e w' => ∃ A' c', e = .returned (.tuple #[.slice A' k c', .int .i64 u, .int .i64 v, .int .i64 E]) ∧ Sl ic 1 w' A' c' x ∧ Below w.heap.size w w' := by
  subst hn h1 hk h2 h3 h4; exact shed31 A c l w hS
theorem fits_lit {s : List Int} (hS : Sl jbC 5 w A c l) (hT : Sl ic 1 w B d s) (n k : Nat) (ok : Bool) (E : Int) (hn : l.length = n) (hk : s.length = k) (h : fitsR l s = (ok, E)) (hs : s.length ≤ 100000) :
    Calls Try.prog 34 #[.slice A n c, .slice B k d] w fun e w' => e = .returned (.tuple #[.bool ok, .int .i64 E]) ∧ Below w.heap.size w w' := by
  subst hn hk
  have := fits34 A c l B d s w hS hT hs
  rw [h] at this; exact this
end
theorem job49 (a b c : Int) (alt : Bool) (w : World) : Calls Try.prog 49 #[.int .i64 a, .int .i64 b, .int .i64 c, .bool alt] w fun e w' => e = .returned (jbV ⟨a, 0, b, c, alt⟩) ∧ Below w.heap.size w w' := by
  have HB := hide (kalloc (Below.refl w.heap.size w) (.cells (jbC ⟨a, 0, b, c, alt⟩).toArray 39))
  simp only [jbV, jbC] at *
  go_enter Try.func49, Try.ntmps49
  go_wp2
  exact bodyPost_ret (v := .agg #[.int .i64 a, .int .i64 0, .int .i64 b, .int .i64 c, .bool alt]) (by simp [results, Try.results49, go_sem]) rfl ⟨rfl, HB.out⟩
end Go.Proofs.Ytbkokljelopcnaa
namespace Go.Proofs.Ytbkokljelopcnaa
open Go.RowKit Go.Mine Go.Mine.Q
attribute [local go_sem] Oper.semAt_some
theorem job49w (a b c : Int) (alt : Bool) (w : World) : Calls Try.prog 49 #[.int .i64 a, .int .i64 b, .int .i64 c, .bool alt] w fun e w' => e = .returned (.agg #[.int .i64 a, .int .i64 0, .int .i64 b, .int .i64 c, .bool alt]) ∧ Below w.heap.size w w' := job49 a b c alt w
theorem same_ints {A B : Option Addr} {c d : Nat} {w : World} {x : List Int} (hA : Sl ic 1 w A c x) (hB : Sl ic 1 w B d x) (k : Nat) (hk : x.length = k) :
    Calls Try.prog 33 #[.slice A k c, .slice B k d] w fun e w' => e = .returned (.bool true) ∧ Below w.heap.size w w' := by
  subst hk
  have K := same33 A B c d x x w hA hB
  rwa [decide_eq_true rfl] at K
theorem ics_nil (w : World) : Sl ic 1 w none 0 ([] : List Int) := Sl.nil (by decide)
set_option maxHeartbeats 8000000 in
set_option maxRecDepth 100000 in
theorem sane29 (w : World) : Calls Try.prog 29 #[] w fun e w' => e = .returned (.bool true) ∧ Below w.heap.size w w' := by
  have HB0 := hide (Below.refl w.heap.size w)
  go_enter Try.func29, Try.ntmps29
  go_wp2_with fail
  refine (job49w 3 10 6 false _).mono ?_
  rintro e w1 ⟨rfl, hb⟩
  have HB1 := hide (kcall HB0.out hb)
  clear hb HB0
  go_wp2_with fail
  refine (job49w 5 10 6 false _).mono ?_
  rintro e w2 ⟨rfl, hb⟩
  have HB2 := hide (kcall HB1.out hb)
  clear hb HB1
  go_wp2_with fail
  refine (shed_lit (l := [(⟨3, 0, 10, 6, false⟩ : Jb), (⟨5, 0, 10, 6, false⟩ : Jb)]) (blit jbC 5 _ 39 [(⟨3, 0, 10, 6, false⟩ : Jb), (⟨5, 0, 10, 6, false⟩ : Jb)] 2 rfl rfl (fun _ _ => rfl) rfl (by decide)) 2 [3] 1 1 0 0 rfl (by decide +kernel) rfl (by decide +kernel) (by decide +kernel) (by decide +kernel)).mono ?_
  rintro e w3 ⟨A3, c3, rfl, hS, hb⟩
  have RK := hide hS
  have HB3 := hide (kcall (kalloc HB2.out _) hb)
  clear hb HB2 hS
  go_wp2_with fail
  refine (shed_lit (l := []) (sjb_nil _) 0 [] 0 0 0 0 rfl (by decide +kernel) rfl (by decide +kernel) (by decide +kernel) (by decide +kernel)).mono ?_
  rintro e w4 ⟨A4, c4, rfl, hS, hb⟩
  have RK := hide (RK.out.bel hb)
  have HB4 := hide (kcall HB3.out hb)
  clear hb HB3 hS
  go_wp2_with fail
  refine (job49w 1 5 6 false _).mono ?_
  rintro e w5 ⟨rfl, hb⟩
  have RK := hide (RK.out.bel hb)
  have HB5 := hide (kcall HB4.out hb)
  clear hb HB4
  go_wp2_with fail
  refine (shed_lit (l := [(⟨1, 0, 5, 6, false⟩ : Jb)]) (blit jbC 5 _ 39 [(⟨1, 0, 5, 6, false⟩ : Jb)] 1 rfl rfl (fun _ _ => rfl) rfl (by decide)) 1 [] 0 1 0 0 rfl (by decide +kernel) rfl (by decide +kernel) (by decide +kernel) (by decide +kernel)).mono ?_
  rintro e w6 ⟨A6, c6, rfl, hS, hb⟩
  have RK := hide ((RK.out.alloc _).bel hb)
  have HB6 := hide (kcall (kalloc HB5.out _) hb)
  clear hb HB5 hS
  go_wp2_with fail
  refine (job49w 1 10 6 true _).mono ?_
  rintro e w7 ⟨rfl, hb⟩
  have RK := hide (RK.out.bel hb)
  have HB7 := hide (kcall HB6.out hb)
  clear hb HB6
  go_wp2_with fail
  refine (job49w 2 10 6 false _).mono ?_
  rintro e w8 ⟨rfl, hb⟩
  have RK := hide (RK.out.bel hb)
  have HB8 := hide (kcall HB7.out hb)
  clear hb HB7
  go_wp2_with fail
  refine (job49w 4 30 6 true _).mono ?_
  rintro e w9 ⟨rfl, hb⟩
  have RK := hide (RK.out.bel hb)
  have HB9 := hide (kcall HB8.out hb)
  clear hb HB8
  go_wp2_with fail
  refine (shed_lit (l := [(⟨1, 0, 10, 6, true⟩ : Jb), (⟨2, 0, 10, 6, false⟩ : Jb), (⟨4, 0, 30, 6, true⟩ : Jb)]) (blit jbC 5 _ 39 [(⟨1, 0, 10, 6, true⟩ : Jb), (⟨2, 0, 10, 6, false⟩ : Jb), (⟨4, 0, 30, 6, true⟩ : Jb)] 3 rfl rfl (fun _ _ => rfl) rfl (by decide)) 3 [2, 4] 2 0 1 0 rfl (by decide +kernel) rfl (by decide +kernel) (by decide +kernel) (by decide +kernel)).mono ?_
  rintro e w10 ⟨A10, c10, rfl, hS, hb⟩
  have RK := hide ((RK.out.alloc _).bel hb)
  have RG := hide hS
  have HB10 := hide (kcall (kalloc HB9.out _) hb)
  clear hb HB9 hS
  go_wp2_with fail
  refine (job49w 3 10 6 false _).mono ?_
  rintro e w11 ⟨rfl, hb⟩
  have RK := hide (RK.out.bel hb)
  have RG := hide (RG.out.bel hb)
  have HB11 := hide (kcall HB10.out hb)
  clear hb HB10
  go_wp2_with fail
  refine (fits_lit (l := [(⟨3, 0, 10, 6, false⟩ : Jb)]) (s := []) (blit jbC 5 _ 39 [(⟨3, 0, 10, 6, false⟩ : Jb)] 1 rfl rfl (fun _ _ => rfl) rfl (by decide)) (ics_nil _) 1 0 true 0 rfl rfl (by decide +kernel) (by decide)).mono ?_
  rintro e w12 ⟨rfl, hb⟩
  have RK := hide ((RK.out.alloc _).bel hb)
  have RG := hide ((RG.out.alloc _).bel hb)
  have HB12 := hide (kcall (kalloc HB11.out _) hb)
  clear hb HB11
  go_wp2_with fail
  refine (fits_lit (l := []) (s := [3]) (sjb_nil _) (blit ic 1 _ 3 [(3 : Int)] 1 rfl rfl (fun _ _ => rfl) rfl (by decide)) 0 1 false 0 rfl rfl (by decide +kernel) (by decide)).mono ?_
  rintro e w13 ⟨rfl, hb⟩
  have RK := hide ((RK.out.alloc _).bel hb)
  have RG := hide ((RG.out.alloc _).bel hb)
  have HB13 := hide (kcall (kalloc HB12.out _) hb)
  clear hb HB12
  go_wp2_with fail
  refine (job49w 3 10 1 false _).mono ?_
  rintro e w14 ⟨rfl, hb⟩
  have RK := hide (RK.out.bel hb)
  have RG := hide (RG.out.bel hb)
  have HB14 := hide (kcall HB13.out hb)
  clear hb HB13
  go_wp2_with fail
  refine (job49w 4 10 1 false _).mono ?_
  rintro e w15 ⟨rfl, hb⟩
  have RK := hide (RK.out.bel hb)
  have RG := hide (RG.out.bel hb)
  have HB15 := hide (kcall HB14.out hb)
  clear hb HB14
  go_wp2_with fail
  refine (fits_lit (l := [(⟨3, 0, 10, 1, false⟩ : Jb), (⟨4, 0, 10, 1, false⟩ : Jb)]) (s := [4, 3]) ((blit jbC 5 _ 39 [(⟨3, 0, 10, 1, false⟩ : Jb), (⟨4, 0, 10, 1, false⟩ : Jb)] 2 rfl rfl (fun _ _ => rfl) rfl (by decide)).alloc _) (blit ic 1 _ 3 [(4 : Int), (3 : Int)] 2 rfl (by simp) (fun _ _ => rfl) rfl (by decide)) 2 2 false 0 rfl rfl (by decide +kernel) (by decide)).mono ?_
  rintro e w16 ⟨rfl, hb⟩
  have RK := hide (((RK.out.alloc _).alloc _).bel hb)
  have RG := hide (((RG.out.alloc _).alloc _).bel hb)
  have HB16 := hide (kcall (kalloc (kalloc HB15.out _) _) hb)
  clear hb HB15
  go_wp2_with fail
  refine (shed_lit (l := [(⟨1, 1, 10, 1, false⟩ : Jb)]) (blit jbC 5 _ 39 [(⟨1, 1, 10, 1, false⟩ : Jb)] 1 rfl rfl (fun _ _ => rfl) rfl (by decide)) 1 [] 0 0 0 430 rfl (by decide +kernel) rfl (by decide +kernel) (by decide +kernel) (by decide +kernel)).mono ?_
  rintro e w17 ⟨A17, c17, rfl, hS, hb⟩
  have RK := hide ((RK.out.alloc _).bel hb)
  have RG := hide ((RG.out.alloc _).bel hb)
  have HB17 := hide (kcall (kalloc HB16.out _) hb)
  clear hb HB16 hS
  go_wp2_with fail
  refine (fits_lit (l := [(⟨0, 0, 0, 0, false⟩ : Jb)]) (s := []) (blit jbC 5 _ 39 [(⟨0, 0, 0, 0, false⟩ : Jb)] 1 rfl rfl (fun _ _ => rfl) rfl (by decide)) (ics_nil _) 1 0 false 420 rfl rfl (by decide +kernel) (by decide)).mono ?_
  rintro e w18 ⟨rfl, hb⟩
  have RK := hide ((RK.out.alloc _).bel hb)
  have RG := hide ((RG.out.alloc _).bel hb)
  have HB18 := hide (kcall (kalloc HB17.out _) hb)
  clear hb HB17
  go_wp2_with fail
  refine (same_ints (x := [3]) (RK.out.alloc _) (blit ic 1 _ 3 [(3 : Int)] 1 rfl rfl (fun _ _ => rfl) rfl (by decide)) 1 rfl).mono ?_
  rintro e w19 ⟨rfl, hb⟩
  have RK := hide ((RK.out.alloc _).bel hb)
  have RG := hide ((RG.out.alloc _).bel hb)
  have HB19 := hide (kcall (kalloc HB18.out _) hb)
  clear hb HB18
  go_wp2_with fail
  refine (same_ints (x := [2, 4]) (RG.out.alloc _) (blit ic 1 _ 3 [(2 : Int), (4 : Int)] 2 rfl rfl (fun _ _ => rfl) rfl (by decide)) 2 rfl).mono ?_
  rintro e w20 ⟨rfl, hb⟩
  have RK := hide ((RK.out.alloc _).bel hb)
  have RG := hide ((RG.out.alloc _).bel hb)
  have HB20 := hide (kcall (kalloc HB19.out _) hb)
  clear hb HB19
  go_wp2
  go_ret
  exact ⟨rfl, HB20.out⟩
end Go.Proofs.Ytbkokljelopcnaa

/-
  hansardlaw41.sane answers true.
-/
import Derived.Test.YtklndmnhhakmiaaBM6
import Derived.Test.YtklndmnhhakmiaaDW8
namespace Go.Proofs.Ytklndmnhhakmiaa
open Go.RowKit Go.Mine Go.Mine.B Go.Sort Go.Shelf
attribute [local go_sem] Oper.semAt_some
def sdB : List Bu := [⟨2, (10, 20, 30, 40)⟩, ⟨5, (0, 0, 0, 0)⟩]
def sdL : List Tr := [⟨1, 90, 7, 1, 2, 5, 15⟩]
section
variable {A B : Option Addr} {c d : Nat} {b : List Bu} {l : List Tr} {w : World}
theorem due_lit (hS : Sl buC 5 w A c b) (hT : Sl trC 7 w B d l) (n m : Nat) (g u k q1 q2 q3 q4 E : Int) (hn : b.length = n) (hm : l.length = m) (hI : okBu b = true) (hJ : okTr l = true) (h : dueV 400 1 b l g u k = ((q1, q2, q3, q4), E)) :
    Calls Try.prog 26 #[.slice A n c, .slice B m d, .int .i64 g, .int .i64 u, .int .i64 k] w fun e w' => e = .returned (.tuple #[.agg #[.int .i64 q1, .int .i64 q2, .int .i64 q3, .int .i64 q4], .int .i64 E]) ∧ Below w.heap.size w w' := by
  subst hn hm
  have K := due26 A c b B d l g u k w hS hT (okBu_S hI) (okTr_S hJ)
  rw [h] at K
  exact K
theorem left_lit (hS : Sl buC 5 w A c b) (hT : Sl trC 7 w B d l) (n m : Nat) (g u k s t q E : Int) (hn : b.length = n) (hm : l.length = m) (hI : okBu b = true) (hJ : okTr l = true) (h : leftV 400 1 b l g u k s t = (q, E)) :
    Calls Try.prog 28 #[.slice A n c, .slice B m d, .int .i64 g, .int .i64 u, .int .i64 k, .int .i64 s, .int .i64 t] w fun e w' => e = .returned (.tuple #[.int .i64 q, .int .i64 E]) ∧ Below w.heap.size w w' := by
  subst hn hm
  have K := left28 A c b B d l g u k s t w hS hT (okBu_S hI) (okTr_S hJ)
  rw [h] at K
  exact K
end
theorem arr24 (w : World) (a1 a2 a3 a4 b1 b2 b3 b4 : Int) (h : (a1 == b1 && (a2 == b2 && (a3 == b3 && a4 == b4))) = true) (d : Nat) : (Op.equalIn (d + 2) 24 (.agg #[.int .i64 a1, .int .i64 a2, .int .i64 a3, .int .i64 a4]) (.agg #[.int .i64 b1, .int .i64 b2, .int .i64 b3, .int .i64 b4])).run Try.prog w = .ok true w := by
  rw [eq24, h]
set_option maxHeartbeats 8000000 in
set_option maxRecDepth 100000 in
theorem sane25 (w : World) : Calls Try.prog 25 #[] w fun e w' => e = .returned (.bool true) ∧ Below w.heap.size w w' := by
  have TB0 := hide ((blit buC 5 w 26 sdB 2 rfl rfl (fun _ _ => rfl) rfl (by decide)).alloc (.cells (sdL.flatMap trC).toArray 40))
  have TL0 := hide (blit trC 7 (w.alloc (.cells (sdB.flatMap buC).toArray 26)) 40 sdL 1 (cs := (sdL.flatMap trC).toArray) (b := w.heap.size + 1) rfl (by simp) (fun _ _ => rfl) rfl (by decide))
  have HB0 := hide (kalloc (kalloc (Below.refl w.heap.size w) (.cells (sdB.flatMap buC).toArray 26)) (.cells (sdL.flatMap trC).toArray 40))
  simp only [sdB, sdL, List.flatMap_cons, List.flatMap_nil, buC, trC, List.append_nil, List.cons_append, List.nil_append] at TB0 TL0 HB0
  go_enter Try.func25, Try.ntmps25
  go_wp2_with fail
  refine (due_lit (b := sdB) (l := []) (TB0.out) (str_nil _) 2 0 2 100 0 110 130 160 200 0 rfl rfl (by decide) (by decide) (by decide)).mono ?_
  rintro e w1 ⟨rfl, hb⟩
  have TB1 := hide ((TB0.out).bel hb)
  have TL1 := hide ((TL0.out).bel hb)
  have HB1 := hide (kcall HB0.out hb)
  clear hb HB0 TB0 TL0
  go_wp2_with fail
  refine (due_lit (b := sdB) (l := []) (TB1.out.alloc _) (str_nil _) 2 0 5 7 0 7 7 7 7 0 rfl rfl (by decide) (by decide) (by decide)).mono ?_
  rintro e w2 ⟨rfl, hb⟩
  have TB2 := hide ((TB1.out.alloc _).bel hb)
  have TL2 := hide ((TL1.out.alloc _).bel hb)
  have X1 := hide ((Blk.new w1 _ _).bel hb)
  have HB2 := hide (kcall (kalloc HB1.out _) hb)
  clear hb HB1 TB1 TL1
  go_wp2_with fail
  refine (due_lit (b := sdB) (l := sdL) (TB2.out.alloc _) (TL2.out.alloc _) 2 1 2 100 7 110 115 145 185 0 rfl rfl (by decide) (by decide) (by decide)).mono ?_
  rintro e w3 ⟨rfl, hb⟩
  have TB3 := hide ((TB2.out.alloc _).bel hb)
  have TL3 := hide ((TL2.out.alloc _).bel hb)
  have X1 := hide ((X1.out.alloc _).bel hb)
  have X2 := hide ((Blk.new w2 _ _).bel hb)
  have HB3 := hide (kcall (kalloc HB2.out _) hb)
  clear hb HB2 TB2 TL2
  go_wp2_with fail
  refine (due_lit (b := sdB) (l := sdL) (TB3.out.alloc _) (TL3.out.alloc _) 2 1 5 100 7 100 115 115 115 0 rfl rfl (by decide) (by decide) (by decide)).mono ?_
  rintro e w4 ⟨rfl, hb⟩
  have TB4 := hide ((TB3.out.alloc _).bel hb)
  have TL4 := hide ((TL3.out.alloc _).bel hb)
  have X1 := hide ((X1.out.alloc _).bel hb)
  have X2 := hide ((X2.out.alloc _).bel hb)
  have X3 := hide ((Blk.new w3 _ _).bel hb)
  have HB4 := hide (kcall (kalloc HB3.out _) hb)
  clear hb HB3 TB3 TL3
  go_wp2_with fail
  refine (due_lit (b := sdB) (l := sdL) (TB4.out.alloc _) (TL4.out.alloc _) 2 1 2 100 6 110 130 160 200 0 rfl rfl (by decide) (by decide) (by decide)).mono ?_
  rintro e w5 ⟨rfl, hb⟩
  have TB5 := hide ((TB4.out.alloc _).bel hb)
  have TL5 := hide ((TL4.out.alloc _).bel hb)
  have X1 := hide ((X1.out.alloc _).bel hb)
  have X2 := hide ((X2.out.alloc _).bel hb)
  have X3 := hide ((X3.out.alloc _).bel hb)
  have X4 := hide ((Blk.new w4 _ _).bel hb)
  have HB5 := hide (kcall (kalloc HB4.out _) hb)
  clear hb HB4 TB4 TL4
  go_wp2_with fail
  refine (due_lit (b := sdB) (l := sdL) (TB5.out.alloc _) (TL5.out.alloc _) 2 1 5 89 7 89 89 89 89 0 rfl rfl (by decide) (by decide) (by decide)).mono ?_
  rintro e w6 ⟨rfl, hb⟩
  have TB6 := hide ((TB5.out.alloc _).bel hb)
  have TL6 := hide ((TL5.out.alloc _).bel hb)
  have X1 := hide ((X1.out.alloc _).bel hb)
  have X2 := hide ((X2.out.alloc _).bel hb)
  have X3 := hide ((X3.out.alloc _).bel hb)
  have X4 := hide ((X4.out.alloc _).bel hb)
  have X5 := hide ((Blk.new w5 _ _).bel hb)
  have HB6 := hide (kcall (kalloc HB5.out _) hb)
  clear hb HB5 TB5 TL5
  go_wp2_with fail
  refine (due_lit (b := []) (l := []) (sbu_nil _) (str_nil _) 0 0 0 0 0 0 0 0 0 1 rfl rfl (by decide) (by decide) (by decide)).mono ?_
  rintro e w7 ⟨rfl, hb⟩
  have TB7 := hide ((TB6.out.alloc _).bel hb)
  have TL7 := hide ((TL6.out.alloc _).bel hb)
  have X1 := hide ((X1.out.alloc _).bel hb)
  have X2 := hide ((X2.out.alloc _).bel hb)
  have X3 := hide ((X3.out.alloc _).bel hb)
  have X4 := hide ((X4.out.alloc _).bel hb)
  have X5 := hide ((X5.out.alloc _).bel hb)
  have X6 := hide ((Blk.new w6 _ _).bel hb)
  have HB7 := hide (kcall (kalloc HB6.out _) hb)
  clear hb HB6 TB6 TL6
  go_wp2_with fail
  refine (left_lit (b := sdB) (l := []) (TB7.out.alloc _) (str_nil _) 2 0 2 100 0 1 120 10 0 rfl rfl (by decide) (by decide) (by decide)).mono ?_
  rintro e w8 ⟨rfl, hb⟩
  have TB8 := hide ((TB7.out.alloc _).bel hb)
  have TL8 := hide ((TL7.out.alloc _).bel hb)
  have X1 := hide ((X1.out.alloc _).bel hb)
  have X2 := hide ((X2.out.alloc _).bel hb)
  have X3 := hide ((X3.out.alloc _).bel hb)
  have X4 := hide ((X4.out.alloc _).bel hb)
  have X5 := hide ((X5.out.alloc _).bel hb)
  have X6 := hide ((X6.out.alloc _).bel hb)
  have HB8 := hide (kcall (kalloc HB7.out _) hb)
  clear hb HB7 TB7 TL7
  go_wp2_with fail
  refine (left_lit (b := sdB) (l := []) (TB8.out) (str_nil _) 2 0 2 100 0 0 120 (-10) 0 rfl rfl (by decide) (by decide) (by decide)).mono ?_
  rintro e w9 ⟨rfl, hb⟩
  have TB9 := hide ((TB8.out).bel hb)
  have TL9 := hide ((TL8.out).bel hb)
  have X1 := hide ((X1.out).bel hb)
  have X2 := hide ((X2.out).bel hb)
  have X3 := hide ((X3.out).bel hb)
  have X4 := hide ((X4.out).bel hb)
  have X5 := hide ((X5.out).bel hb)
  have X6 := hide ((X6.out).bel hb)
  have HB9 := hide (kcall HB8.out hb)
  clear hb HB8 TB8 TL8
  go_wp2_with fail
  refine (left_lit (b := sdB) (l := []) (TB9.out) (str_nil _) 2 0 5 7 0 4 7 0 1 rfl rfl (by decide) (by decide) (by decide)).mono ?_
  rintro e w10 ⟨rfl, hb⟩
  have TB10 := hide ((TB9.out).bel hb)
  have TL10 := hide ((TL9.out).bel hb)
  have X1 := hide ((X1.out).bel hb)
  have X2 := hide ((X2.out).bel hb)
  have X3 := hide ((X3.out).bel hb)
  have X4 := hide ((X4.out).bel hb)
  have X5 := hide ((X5.out).bel hb)
  have X6 := hide ((X6.out).bel hb)
  have HB10 := hide (kcall HB9.out hb)
  clear hb HB9 TB9 TL9
  go_wp2_with fail
  refine (due_lit (b := [⟨32, q0⟩]) (l := []) (blit buC 5 _ 26 [⟨32, q0⟩] 1 rfl rfl (fun _ _ => rfl) rfl (by decide)) (str_nil _) 1 0 32 0 0 0 0 0 0 400 rfl rfl (by decide) (by decide) (by decide)).mono ?_
  rintro e w11 ⟨rfl, hb⟩
  have X1 := hide ((X1.out.alloc _).bel hb)
  have X2 := hide ((X2.out.alloc _).bel hb)
  have X3 := hide ((X3.out.alloc _).bel hb)
  have X4 := hide ((X4.out.alloc _).bel hb)
  have X5 := hide ((X5.out.alloc _).bel hb)
  have X6 := hide ((X6.out.alloc _).bel hb)
  have HB := hide (kcall (kalloc HB10.out _) hb)
  clear hb HB10 TB10 TL10
  have X1c0 := X1.out.cell (v := .int .i64 110) 0 rfl
  have X1c1 := X1.out.cell (v := .int .i64 130) 1 rfl
  have X1c2 := X1.out.cell (v := .int .i64 160) 2 rfl
  have X1c3 := X1.out.cell (v := .int .i64 200) 3 rfl
  have X1l := X1.out.lt
  have X2c0 := X2.out.cell (v := .int .i64 7) 0 rfl
  have X2c1 := X2.out.cell (v := .int .i64 7) 1 rfl
  have X2c2 := X2.out.cell (v := .int .i64 7) 2 rfl
  have X2c3 := X2.out.cell (v := .int .i64 7) 3 rfl
  have X2l := X2.out.lt
  have X3c0 := X3.out.cell (v := .int .i64 110) 0 rfl
  have X3c1 := X3.out.cell (v := .int .i64 115) 1 rfl
  have X3c2 := X3.out.cell (v := .int .i64 145) 2 rfl
  have X3c3 := X3.out.cell (v := .int .i64 185) 3 rfl
  have X3l := X3.out.lt
  have X4c0 := X4.out.cell (v := .int .i64 100) 0 rfl
  have X4c1 := X4.out.cell (v := .int .i64 115) 1 rfl
  have X4c2 := X4.out.cell (v := .int .i64 115) 2 rfl
  have X4c3 := X4.out.cell (v := .int .i64 115) 3 rfl
  have X4l := X4.out.lt
  have X5c0 := X5.out.cell (v := .int .i64 110) 0 rfl
  have X5c1 := X5.out.cell (v := .int .i64 130) 1 rfl
  have X5c2 := X5.out.cell (v := .int .i64 160) 2 rfl
  have X5c3 := X5.out.cell (v := .int .i64 200) 3 rfl
  have X5l := X5.out.lt
  have X6c0 := X6.out.cell (v := .int .i64 89) 0 rfl
  have X6c1 := X6.out.cell (v := .int .i64 89) 1 rfl
  have X6c2 := X6.out.cell (v := .int .i64 89) 2 rfl
  have X6c3 := X6.out.cell (v := .int .i64 89) 3 rfl
  have X6l := X6.out.lt
  have e24 := eq24
  go_wp2
  go_ret
  exact ⟨rfl, kalloc HB.out _⟩
end Go.Proofs.Ytklndmnhhakmiaa

/-
  hansardlaw31.sane answers true.
-/
import Derived.Test.YtlobgdnhmhdhbaaPRef3
namespace Go.Proofs.Ytlobgdnhmhdhbaa
open Go.RowKit Go.Shelf Go.Mine

theorem sl_blk {α : Type} {f : α → List Value} {sz : Nat} {W : World} {b c : Nat} {ty : TypeId} {cs : Array Value} (h : Blk W b ty cs) (l : List α) (hcs : cs.toList = l.flatMap f) (hs : ∀ x ∈ l, (f x).length = sz) (hn : l.length ≤ c) (hc : c ≤ 1000) : Sl f sz W (some ⟨b, 0, none⟩) c l :=
  ⟨hn, by omega, hs, fun _ => ⟨b, 0, rfl, h.lt, fun i v hv => by
    simp only [Nat.zero_add, World.cell?, h.at_]
    rw [← Array.getElem?_toList, hcs]
    simpa using hv⟩⟩
def ci (x : List Int) : Array Value := (x.map (Value.int .i64)).toArray
theorem ci_flat (x : List Int) : (ci x).toList = x.flatMap ic := by unfold ci; rw [List.map_eq_flatMap]; rfl
/-- a literal list -/
theorem lit (w : World) (x : List Int) (n : Nat) {cs : Array Value} {b : Nat} (hcs : cs = ci x) (hb : w.heap.size = b) (hn : x.length = n) (hm : n ≤ 1000) : Sl ic 1 (w.alloc (.cells cs 3)) (some ⟨b, 0, none⟩) n x := by
  subst hb
  exact sl_blk (Blk.new w _ 3) x (by rw [hcs]; exact ci_flat x) (fun _ _ => rfl) (by omega) hm
theorem lit_two (w : World) (x y : List Int) (n m : Nat) {cs cs2 : Array Value} (hcs : cs = ci x) (hcs2 : cs2 = ci y) (hn : x.length = n) (hm : y.length = m) (h1 : n ≤ 1000) (h2 : m ≤ 1000) :
    Rel (((w.alloc (.cells cs 3)).alloc (.cells cs2 3)).alloc (.cells #[.slice (some ⟨w.heap.size, 0, none⟩) n n, .slice (some ⟨w.heap.size + 1, 0, none⟩) m m] 31)) (some ⟨w.heap.size + 1 + 1, 0, none⟩) 2 [x, y] := by
  subst hn hm
  refine ⟨[(some ⟨w.heap.size, 0, none⟩, x.length, x), (some ⟨w.heap.size + 1, 0, none⟩, y.length, y)], rfl, sl_blk (Blk.new2 w _ _ _ 31) _ rfl (fun _ _ => rfl) (by simp) (by omega), ?_⟩
  intro e he
  simp only [List.mem_cons, List.not_mem_nil, or_false] at he
  rcases he with rfl | rfl
  · exact ((lit w x _ hcs rfl rfl h1).alloc _).alloc _
  · exact (lit (w.alloc (.cells cs 3)) y _ hcs2 (by simp) rfl h2).alloc (.cells #[.slice (some ⟨w.heap.size, 0, none⟩) x.length x.length, .slice (some ⟨w.heap.size + 1, 0, none⟩) y.length y.length] 31)
theorem lit_one (w : World) (x : List Int) (n : Nat) {cs : Array Value} {b b2 : Nat} (hcs : cs = ci x) (hb : w.heap.size = b) (hb2 : w.heap.size + 1 = b2) (hn : x.length = n) (h1 : n ≤ 1000) :
    Rel ((w.alloc (.cells cs 3)).alloc (.cells #[.slice (some ⟨b, 0, none⟩) n n] 31)) (some ⟨b2, 0, none⟩) 1 [x] := by
  subst hn hb hb2
  refine ⟨[(some ⟨w.heap.size, 0, none⟩, x.length, x)], rfl, sl_blk (Blk.new1 w _ _ 31) _ rfl (fun _ _ => rfl) (by simp) (by omega), ?_⟩
  intro e he
  simp only [List.mem_cons, List.not_mem_nil, or_false] at he
  subst he
  exact (lit w x _ hcs rfl rfl h1).alloc _
theorem lit_nil (w : World) {b : Nat} (hb : w.heap.size = b) : Rel (w.alloc (.cells #[.slice none 0 0] 31)) (some ⟨b, 0, none⟩) 1 [[]] := by
  subst hb
  refine ⟨[(none, 0, [])], rfl, sl_blk (Blk.new w _ 31) _ rfl (fun _ _ => rfl) (by simp) (by omega), ?_⟩
  intro e he
  simp only [List.mem_cons, List.not_mem_nil, or_false] at he
  subst he
  exact Sl.nil (by simp)
theorem rel_nil (w : World) : Rel w none 0 [] := Rel.nil (by omega)
theorem then_lit {A B : Option Addr} {c d : Nat} {r s : List (List Int)} {n : Int} {w : World} (hR : Rel w A c r) (hS : Rel w B d s) (x : List (List Int)) (er : Int) (k j i : Nat) (h1 : P.thenL r s n = x) (h2 : P.thenE r s n = er) (hk : r.length = k) (hj : s.length = j) (hi : x.length = i) :
    Calls Try.prog 11 #[.slice A k c, .slice B j d, .int .i64 n] w fun e w' => ∃ A2 c2, e = .returned (.tuple #[.slice A2 i c2, .int .i64 er]) ∧ Rel w' A2 c2 x ∧ Below w.heap.size w w' := by
  subst h1 h2 hk hj hi; exact then11_any A B c d r s n w hR hS
theorem own_sl {w w' : World} {v : Value} {l : List Int} {i : Nat} (hi : l.length = i) (h : OwnL ic 1 3 w' w.heap.size v l) : ∃ A2 c2, v = .slice A2 i c2 ∧ Sl ic 1 w' A2 c2 l := by
  subst hi; exact h.sl
theorem reach_lit {A B : Option Addr} {c d : Nat} {r : List (List Int)} {s : List Int} {n : Int} {w : World} (hR : Rel w A c r) (hS : Sl ic 1 w B d s) (x : List Int) (er : Int) (k j i : Nat) (h1 : P.reachL r n s = x) (h2 : P.argE r n n s = er) (hk : r.length = k) (hj : s.length = j) (hi : x.length = i) :
    Calls Try.prog 16 #[.slice A k c, .int .i64 n, .slice B j d] w fun e w' => ∃ A2 c2, e = .returned (.tuple #[.slice A2 i c2, .int .i64 er]) ∧ Sl ic 1 w' A2 c2 x ∧ Below w.heap.size w w' := by
  subst h1 h2 hk hj
  refine (reach16_any A B c d r n s w hR hS).mono ?_
  rintro e w' ⟨v, rfl, hO, hb⟩
  obtain ⟨A2, c2, rfl, h⟩ := own_sl hi hO
  exact ⟨A2, c2, rfl, h, hb⟩
theorem back_lit {A B : Option Addr} {c d : Nat} {r : List (List Int)} {s : List Int} {n : Int} {w : World} (hR : Rel w A c r) (hS : Sl ic 1 w B d s) (x : List Int) (er : Int) (k j i : Nat) (h1 : P.backL r n s = x) (h2 : P.argE r n r.length s = er) (hk : r.length = k) (hj : s.length = j) (hi : x.length = i) :
    Calls Try.prog 18 #[.slice A k c, .int .i64 n, .slice B j d] w fun e w' => ∃ A2 c2, e = .returned (.tuple #[.slice A2 i c2, .int .i64 er]) ∧ Sl ic 1 w' A2 c2 x ∧ Below w.heap.size w w' := by
  subst h1 h2 hk hj
  refine (back18_any A B c d r n s w hR hS).mono ?_
  rintro e w' ⟨v, rfl, hO, hb⟩
  obtain ⟨A2, c2, rfl, h⟩ := own_sl hi hO
  exact ⟨A2, c2, rfl, h, hb⟩
theorem check_lit {A : Option Addr} {c : Nat} {r : List (List Int)} {n : Int} {w : World} (hR : Rel w A c r) (er : Int) (k : Nat) (h : P.chk r n = er) (hk : r.length = k) :
    Calls Try.prog 13 #[.slice A k c, .int .i64 n] w fun e w' => e = .returned (.int .i64 er) ∧ Below w.heap.size w w' := by
  subst h hk; exact check13_any A c r n w hR
theorem same_lit {A B : Option Addr} {c d : Nat} {r : List (List Int)} {w : World} (hR : Rel w A c r) (hS : Rel w B d r) (k : Nat) (hk : r.length = k) :
    Calls Try.prog 15 #[.slice A k c, .slice B k d] w fun e w' => e = .returned (.bool true) ∧ Below w.heap.size w w' := by
  subst hk
  have K := same15_any A B c d r r w hR hS
  rwa [decide_eq_true rfl] at K
theorem ints_lit {A B : Option Addr} {c d : Nat} {r : List Int} {w : World} (hR : Sl ic 1 w A c r) (hS : Sl ic 1 w B d r) (k : Nat) (hk : r.length = k) :
    Calls Try.prog 20 #[.slice A k c, .slice B k d] w fun e w' => e = .returned (.bool true) ∧ Below w.heap.size w w' := by
  subst hk
  have K := sameInts20_any A B c d r r w hR hS
  rwa [decide_eq_true rfl] at K

set_option maxRecDepth 100000 in
set_option maxHeartbeats 8000000 in
theorem sane31_any (w : World) : Calls Try.prog 9 #[] w fun e w' => e = .returned (.bool true) ∧ Below w.heap.size w w' := by
  have hB0 := Below.refl w.heap.size w
  have hR := lit_two w [0, 2] [1] 2 1 (cs := #[.int .i64 0, .int .i64 2]) (cs2 := #[.int .i64 1]) rfl rfl rfl rfl (by omega) (by omega)
  go_enter Try.func9, Try.ntmps9
  go_wp2_with fail
  refine (then_lit ((hR.alloc _).alloc _) (lit_one _ [0, 1] 2 (by rfl) (by simp) (by simp) rfl (by omega)) [[0, 1, 2]] 0 2 1 1 (by decide +kernel) (by decide +kernel) rfl rfl rfl).mono ?_
  rintro e w1 ⟨Ax, cx, rfl, hX, hb⟩
  have hB1 := kcall (kalloc (kalloc (kalloc (kalloc (kalloc hB0 _) _) _) _) _) hb
  replace hR := ((hR.alloc _).alloc _).bel hb
  clear hb hB0
  go_wp2_with fail
  refine (then_lit (rel_nil _) (rel_nil _) [] 0 0 0 0 (by decide +kernel) (by decide +kernel) rfl rfl rfl).mono ?_
  rintro e w2 ⟨An, cn, rfl, hN, hb⟩
  have hB2 := kcall hB1 hb
  replace hR := hR.bel hb
  replace hX := hX.bel hb
  clear hb hB1
  go_wp2_with fail
  refine (then_lit (rel_nil _) (lit_one _ [] 0 (by rfl) (by simp) (by simp) rfl (by omega)) [[]] 0 0 1 1 (by decide +kernel) (by decide +kernel) rfl rfl rfl).mono ?_
  rintro e w3 ⟨Ae, ce, rfl, hE, hb⟩
  have hB3 := kcall (kalloc (kalloc hB2 _) _) hb
  replace hR := ((hR.alloc _).alloc _).bel hb
  replace hX := ((hX.alloc _).alloc _).bel hb
  clear hb hB2
  go_wp2_with fail
  refine (reach_lit (hR.alloc _) (lit _ [2] 1 (by rfl) (by simp) rfl (by omega)) [0] 0 2 1 1 (by decide +kernel) (by decide +kernel) rfl rfl rfl).mono ?_
  rintro e w4 ⟨Al, cl, rfl, hL, hb⟩
  have hB4 := kcall (kalloc hB3 _) hb
  replace hR := (hR.alloc _).bel hb
  replace hX := (hX.alloc _).bel hb
  replace hE := (hE.alloc _).bel hb
  clear hb hB3
  go_wp2_with fail
  refine (back_lit (hR.alloc _) (lit _ [0, 1] 2 (by rfl) (by simp) rfl (by omega)) [0, 1, 2] 0 2 2 3 (by decide +kernel) (by decide +kernel) rfl rfl rfl).mono ?_
  rintro e w5 ⟨Am, cm, rfl, hM, hb⟩
  have hB5 := kcall (kalloc hB4 _) hb
  replace hR := (hR.alloc _).bel hb
  replace hX := (hX.alloc _).bel hb
  replace hE := (hE.alloc _).bel hb
  replace hL := (hL.alloc _).bel hb
  clear hb hB4
  go_wp2_with fail
  refine (reach_lit (rel_nil _) (lit _ [0] 1 (by rfl) (by simp) rfl (by omega)) [] 1 0 1 0 (by decide +kernel) (by decide +kernel) rfl rfl rfl).mono ?_
  rintro e w6 ⟨Aj, cj, rfl, hJ, hb⟩
  have hB6 := kcall (kalloc hB5 _) hb
  replace hR := (hR.alloc _).bel hb
  replace hX := (hX.alloc _).bel hb
  replace hE := (hE.alloc _).bel hb
  replace hL := (hL.alloc _).bel hb
  replace hM := (hM.alloc _).bel hb
  clear hb hB5
  go_wp2_with fail
  refine (back_lit (hR.alloc _) (lit _ [2] 1 (by rfl) (by simp) rfl (by omega)) [] 1 2 1 0 (by decide +kernel) (by decide +kernel) rfl rfl rfl).mono ?_
  rintro e w7 ⟨Ak, ck, rfl, hK, hb⟩
  have hB7 := kcall (kalloc hB6 _) hb
  replace hR := (hR.alloc _).bel hb
  replace hX := (hX.alloc _).bel hb
  replace hE := (hE.alloc _).bel hb
  replace hL := (hL.alloc _).bel hb
  replace hM := (hM.alloc _).bel hb
  clear hb hB6
  go_wp2_with fail
  refine (then_lit ((hR.alloc _).alloc _) (lit_one _ [2] 1 (by rfl) (by simp) (by simp) rfl (by omega)) [] 310 2 1 0 (by decide +kernel) (by decide +kernel) rfl rfl rfl).mono ?_
  rintro e w8 ⟨Ao, co, rfl, hO, hb⟩
  have hB8 := kcall (kalloc (kalloc hB7 _) _) hb
  replace hR := ((hR.alloc _).alloc _).bel hb
  replace hX := ((hX.alloc _).alloc _).bel hb
  replace hE := ((hE.alloc _).alloc _).bel hb
  replace hL := ((hL.alloc _).alloc _).bel hb
  replace hM := ((hM.alloc _).alloc _).bel hb
  clear hb hB7
  go_wp2_with fail
  refine (same_lit ((hX.alloc _).alloc _) (lit_one _ [0, 1, 2] 3 (by rfl) (by simp) (by simp) rfl (by omega)) 1 rfl).mono ?_
  rintro e w9 ⟨rfl, hb⟩
  have hB9 := kcall (kalloc (kalloc hB8 _) _) hb
  replace hR := ((hR.alloc _).alloc _).bel hb
  replace hX := ((hX.alloc _).alloc _).bel hb
  replace hE := ((hE.alloc _).alloc _).bel hb
  replace hL := ((hL.alloc _).alloc _).bel hb
  replace hM := ((hM.alloc _).alloc _).bel hb
  clear hb hB8
  go_wp2_with fail
  refine (same_lit (hE.alloc _) (lit_nil _ (by simp)) 1 rfl).mono ?_
  rintro e w10 ⟨rfl, hb⟩
  have hB10 := kcall (kalloc hB9 _) hb
  replace hR := (hR.alloc _).bel hb
  replace hX := (hX.alloc _).bel hb
  replace hE := (hE.alloc _).bel hb
  replace hL := (hL.alloc _).bel hb
  replace hM := (hM.alloc _).bel hb
  clear hb hB9
  go_wp2_with fail
  refine (ints_lit (hL.alloc _) (lit _ [0] 1 (by rfl) (by simp) rfl (by omega)) 1 rfl).mono ?_
  rintro e w11 ⟨rfl, hb⟩
  have hB11 := kcall (kalloc hB10 _) hb
  replace hR := (hR.alloc _).bel hb
  replace hX := (hX.alloc _).bel hb
  replace hE := (hE.alloc _).bel hb
  replace hL := (hL.alloc _).bel hb
  replace hM := (hM.alloc _).bel hb
  clear hb hB10
  go_wp2_with fail
  refine (ints_lit (hM.alloc _) (lit _ [0, 1, 2] 3 (by rfl) (by simp) rfl (by omega)) 3 rfl).mono ?_
  rintro e w12 ⟨rfl, hb⟩
  have hB12 := kcall (kalloc hB11 _) hb
  replace hR := (hR.alloc _).bel hb
  replace hX := (hX.alloc _).bel hb
  replace hE := (hE.alloc _).bel hb
  replace hL := (hL.alloc _).bel hb
  replace hM := (hM.alloc _).bel hb
  clear hb hB11
  go_wp2_with fail
  refine (check_lit hR 0 2 (by decide +kernel) rfl).mono ?_
  rintro e w13 ⟨rfl, hb⟩
  have hB13 := kcall hB12 hb
  replace hR := hR.bel hb
  replace hX := hX.bel hb
  replace hE := hE.bel hb
  replace hL := hL.bel hb
  replace hM := hM.bel hb
  clear hb hB12
  go_wp2_with fail
  refine (check_lit hR 310 2 (by decide +kernel) rfl).mono ?_
  rintro e w14 ⟨rfl, hb⟩
  have hB14 := kcall hB13 hb
  replace hR := hR.bel hb
  replace hX := hX.bel hb
  replace hE := hE.bel hb
  replace hL := hL.bel hb
  replace hM := hM.bel hb
  clear hb hB13
  go_wp2_with fail
  refine (check_lit (lit_one _ [1, 1] 2 (by rfl) (by simp) (by simp) rfl (by omega)) 310 1 (by decide +kernel) rfl).mono ?_
  rintro e w15 ⟨rfl, hb⟩
  have hB15 := kcall (kalloc (kalloc hB14 _) _) hb
  replace hR := ((hR.alloc _).alloc _).bel hb
  replace hX := ((hX.alloc _).alloc _).bel hb
  replace hE := ((hE.alloc _).alloc _).bel hb
  replace hL := ((hL.alloc _).alloc _).bel hb
  replace hM := ((hM.alloc _).alloc _).bel hb
  clear hb hB14
  go_wp2_with fail
  refine (check_lit (rel_nil _) 310 0 (by decide +kernel) rfl).mono ?_
  rintro e w16 ⟨rfl, hb⟩
  have hB16 := kcall hB15 hb
  replace hR := hR.bel hb
  replace hX := hX.bel hb
  replace hE := hE.bel hb
  replace hL := hL.bel hb
  replace hM := hM.bel hb
  clear hb hB15
  go_wp2
  go_ret
  exact ⟨rfl, hB16⟩
end Go.Proofs.Ytlobgdnhmhdhbaa

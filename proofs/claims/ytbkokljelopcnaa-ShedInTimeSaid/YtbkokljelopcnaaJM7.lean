/-
  hansardlaw42.sane answers true.
  The laws' arguments: jobs, slices, numbers, a span.
-/
import Derived.Test.YtbkokljelopcnaaJM6
import Derived.Test.YtbkokljelopcnaaJM4
import Derived.Test.YtbkokljelopcnaaJM5
import Derived.Test.YtbkokljelopcnaaLift6
import Derived.Test.YtbkokljelopcnaaLift5
namespace Go.Proofs.Ytbkokljelopcnaa
open Go.RowKit Go.Mine Go.Mine.Q
attribute [local go_sem] Oper.semAt_some
theorem bsl_blk {α : Type} {f : α → List Value} {sz : Nat} {W : World} {b c : Nat} {ty : TypeId} {cs : Array Value} (h : Blk W b ty cs) (l : List α) (hcs : cs.toList = l.flatMap f) (hs : ∀ x ∈ l, (f x).length = sz) (hn : l.length ≤ c) (hc : c ≤ 1000) : Sl f sz W (some ⟨b, 0, none⟩) c l :=
  ⟨hn, by omega, hs, fun _ => ⟨b, 0, rfl, h.lt, fun i v hv => by
    simp only [Nat.zero_add, World.cell?, h.at_]
    rw [← Array.getElem?_toList, hcs]
    simpa using hv⟩⟩
theorem blit {α : Type} (f : α → List Value) (sz : Nat) (w : World) (ty : TypeId) (l : List α) (n : Nat) {cs : Array Value} {b : Nat} (hcs : cs.toList = l.flatMap f) (hb : w.heap.size = b) (hs : ∀ x ∈ l, (f x).length = sz) (hn : l.length = n) (hm : n ≤ 1000) : Sl f sz (w.alloc (.cells cs ty)) (some ⟨b, 0, none⟩) n l := by
  subst hb; exact bsl_blk (Blk.new w _ ty) l hcs hs (by omega) hm
section
variable {A B : Option Addr} {c d : Nat} {l : List Jb} {w : World}
theorem run_lit (hS : Sl jbC 5 w A c l) (n : Nat) (x : List Sx) (k : Nat) (ok : Bool) (E : Int) (hn : l.length = n) (h1 : runS l = x) (hk : x.length = k) (h2 : runB l = ok) (h3 : chk l = E) :
    Calls Try.prog 22 #[.slice A n c] w fun e w' => ∃ A' c', e = .returned (.tuple #[.slice A' k c', .bool ok, .int .i64 E]) ∧ Sl sxC 3 w' A' c' x ∧ Below w.heap.size w w' := by
  subst hn h1 hk h2 h3; exact run22 A c l w hS
theorem deny_lit (hS : Sl jbC 5 w A c l) (n : Nat) (a b : Int) (ok : Bool) (E : Int) (hn : l.length = n) (h1 : qA (denyQ l) = a) (h2 : qB (denyQ l) = b) (h3 : (denyQ l).isSome = ok) (h4 : chk l = E) :
    Calls Try.prog 17 #[.slice A n c] w fun e w' => e = .returned (.tuple #[.agg #[.int .i64 a, .int .i64 b], .bool ok, .int .i64 E]) ∧ Below w.heap.size w w' := by
  subst hn h1 h2 h3 h4; exact deny17 A c l w hS
theorem ref_lit (hS : Sl jbC 5 w A c l) (n : Nat) (f u : Int) (ok : Bool) (E : Int) (hn : l.length = n) (h : refR l f u = (ok, E)) :
    Calls Try.prog 19 #[.slice A n c, .agg #[.int .i64 f, .int .i64 u]] w fun e w' => e = .returned (.tuple #[.bool ok, .int .i64 E]) ∧ Below w.heap.size w w' := by
  subst hn
  have := refutes19 A c l f u w hS
  rw [h] at this; exact this
theorem same_lit {x : List Sx} (hA : Sl sxC 3 w A c x) (hB : Sl sxC 3 w B d x) (k : Nat) (hk : x.length = k) :
    Calls Try.prog 23 #[.slice A k c, .slice B k d] w fun e w' => e = .returned (.bool true) ∧ Below w.heap.size w w' := by
  subst hk
  have K := same23 A B c d x x w hA hB
  rwa [decide_eq_true rfl] at K
end
theorem sjb_nil (w : World) : Sl jbC 5 w none 0 ([] : List Jb) := Sl.nil (by decide)
theorem Try_info39 : (Try.prog.info? 39).map (fun i => (i.zero, i.size, i.bytes)) = some (some (.agg #[.int .i64 0, .int .i64 0, .int .i64 0, .int .i64 0, .bool false]), 5, 40) := by kernel_rfl
def zeroJ : Jb := ⟨0, 0, 0, 0, false⟩
theorem made65 : (madeCells (Value.agg #[.int .i64 0, .int .i64 0, .int .i64 0, .int .i64 0, .bool false]).cells 325).toList = (List.replicate 65 zeroJ).flatMap jbC := by kernel_rfl
theorem made65' : (madeCells #[Value.int .i64 0, .int .i64 0, .int .i64 0, .int .i64 0, .bool false] 325).toList = (List.replicate 65 zeroJ).flatMap jbC := made65
set_option maxHeartbeats 8000000 in
set_option maxRecDepth 100000 in
theorem sane15 (w : World) : Calls Try.prog 15 #[] w fun e w' => e = .returned (.bool true) ∧ Below w.heap.size w w' := by
  have HB0 := hide (Below.refl w.heap.size w)
  obtain ⟨i0, hi, hz0, hz1, hz2⟩ := info_parts Try_info39
  have hmk : ∀ w : World, (Instr.makeSlice 22 (.int .i64 65) (.int .i64 65)).run Try.prog w = .ok (.slice (some ⟨w.heap.size, 0, none⟩) 65 65) (w.alloc (.cells (madeCells (Value.agg #[.int .i64 0, .int .i64 0, .int .i64 0, .int .i64 0, .bool false]).cells 325) 39)) := fun w => by
    have := run_make_rowN 22 39 i0 _ Try.underlying22 hi hz0 .i64 .i64 65 65 (by decide) (by rw [hz2]; decide) (by decide) w
    rw [hz1] at this; exact this
  clear hi
  go_enter Try.func15, Try.ntmps15
  go_wp2_with fail
  refine (run_lit (l := []) (sjb_nil _) 0 [] 0 true 0 (by decide) (by decide) (by decide) (by decide) (by decide)).mono ?_
  rintro e w1 ⟨A1, c1, rfl, hS, hb⟩
  have HB1 := hide (kcall HB0.out hb)
  clear hb HB0
  clear hS
  go_wp2_with fail
  refine (deny_lit (l := []) (sjb_nil _) 0 0 0 false 0 (by decide) (by decide) (by decide) (by decide) (by decide)).mono ?_
  rintro e w2 ⟨rfl, hb⟩
  have HB2 := hide (kcall HB1.out hb)
  clear hb HB1
  go_wp2_with fail
  refine (run_lit (l := [(⟨0, 0, 5, 0, false⟩ : Jb)]) (blit jbC 5 _ 39 [(⟨0, 0, 5, 0, false⟩ : Jb)] 1 rfl (by simp) (fun _ _ => rfl) rfl (by decide)) 1 [] 0 false 420 (by decide) (by decide) (by decide) (by decide) (by decide)).mono ?_
  rintro e w3 ⟨A3, c3, rfl, hS, hb⟩
  have HB3 := hide (kcall (kalloc (kalloc HB2.out _) _) hb)
  clear hb HB2
  clear hS
  go_wp2_with fail
  refine (ref_lit (l := []) (sjb_nil _) 0 0 5 false 0 (by decide) (by decide)).mono ?_
  rintro e w4 ⟨rfl, hb⟩
  have HB4 := hide (kcall HB3.out hb)
  clear hb HB3
  go_wp2_with fail
  refine (run_lit (l := [(⟨1, 0, 20, 8, false⟩ : Jb), (⟨2, 3, 6, 2, false⟩ : Jb)]) (blit jbC 5 _ 39 [(⟨1, 0, 20, 8, false⟩ : Jb), (⟨2, 3, 6, 2, false⟩ : Jb)] 2 rfl rfl (fun _ _ => rfl) rfl (by decide)) 2 [⟨1, 0, 3⟩, ⟨2, 3, 5⟩, ⟨1, 5, 10⟩] 3 true 0 (by decide) (by decide) (by decide) (by decide) (by decide)).mono ?_
  rintro e w5 ⟨A5, c5, rfl, hS, hb⟩
  have RL := hide hS
  clear hS
  have HB5 := hide (kcall (kalloc HB4.out _) hb)
  clear hb HB4
  obtain ⟨wt, hwt⟩ : ∃ wt, w5.alloc (.cells #[.int .i64 1, .int .i64 0, .int .i64 10, .int .i64 6, .bool false, .int .i64 2, .int .i64 0, .int .i64 10, .int .i64 6, .bool false] 39) = wt := ⟨_, rfl⟩
  have HT : Hid (Sl jbC 5 wt (some ⟨w5.heap.size, 0, none⟩) 2 [(⟨1, 0, 10, 6, false⟩ : Jb), (⟨2, 0, 10, 6, false⟩ : Jb)]) := hide (by rw [← hwt]; exact (blit jbC 5 _ 39 [(⟨1, 0, 10, 6, false⟩ : Jb), (⟨2, 0, 10, 6, false⟩ : Jb)] 2 rfl rfl (fun _ _ => rfl) rfl (by decide)))
  have RL : Hid (Sl sxC 3 wt A5 c5 [⟨1, 0, 3⟩, ⟨2, 3, 5⟩, ⟨1, 5, 10⟩]) := hide (by rw [← hwt]; exact RL.out.alloc _)
  have HB5 : Hid (Below w.heap.size w wt) := hide (by rw [← hwt]; exact kalloc HB5.out _)
  go_wp2_with fail
  refine (run_lit (l := [(⟨1, 0, 10, 6, false⟩ : Jb), (⟨2, 0, 10, 6, false⟩ : Jb)]) HT.out 2 [] 0 false 0 (by decide) (by decide) (by decide) (by decide) (by decide)).mono ?_
  rintro e w6 ⟨A6, c6, rfl, hS, hb⟩
  have RL := hide (RL.out.bel hb)
  have HT := hide (HT.out.bel hb)
  have HB6 := hide (kcall HB5.out hb)
  clear hb HB5
  clear hS
  clear hwt
  go_wp2_with fail
  refine (deny_lit (l := [(⟨1, 0, 10, 6, false⟩ : Jb), (⟨2, 0, 10, 6, false⟩ : Jb)]) HT.out 2 0 10 true 0 (by decide) (by decide) (by decide) (by decide) (by decide)).mono ?_
  rintro e w7 ⟨rfl, hb⟩
  have RL := hide (RL.out.bel hb)
  have HT := hide (HT.out.bel hb)
  have HB7 := hide (kcall HB6.out hb)
  clear hb HB6
  clear HT
  go_wp2_with fail
  refine (run_lit (l := (List.replicate 65 zeroJ)) (blit jbC 5 _ 39 (List.replicate 65 zeroJ) 65 made65' (by simp) (fun _ h => by rw [List.eq_of_mem_replicate h]; rfl) (by decide) (by decide)) 65 [] 0 false 2 (by decide) (by decide) (by decide) (by decide) (by decide)).mono ?_
  rintro e w8 ⟨A8, c8, rfl, hS, hb⟩
  have X8 := ((Blk.new w7 #[.int .i64 0, .int .i64 10] 24).alloc _).bel hb
  have RL := hide (((RL.out.alloc _).alloc _).bel hb)
  have HB8 := hide (kcall (kalloc (kalloc HB7.out _) _) hb)
  clear hb HB7
  clear hS
  have x0 := X8.cell (v := .int .i64 0) 0 rfl
  have x1 := X8.cell (v := .int .i64 10) 1 rfl
  have xl := X8.lt
  go_wp2_with fail
  refine (same_lit (x := [⟨1, 0, 3⟩, ⟨2, 3, 5⟩, ⟨1, 5, 10⟩]) (RL.out.alloc _) (blit sxC 3 _ 41 [(⟨1, 0, 3⟩ : Sx), ⟨2, 3, 5⟩, ⟨1, 5, 10⟩] 3 rfl rfl (fun _ _ => rfl) rfl (by decide)) 3 rfl).mono ?_
  rintro e w9 ⟨rfl, hb⟩
  have HB9 := hide (kcall (kalloc HB8.out _) hb)
  go_wp2
  go_ret
  exact ⟨rfl, HB9.out⟩
end Go.Proofs.Ytbkokljelopcnaa
namespace Go.Proofs.Ytbkokljelopcnaa
open Go.RowKit Go.Mine Go.Mine.Q Go.ChangeShapes Go.WideShapes Go.ChangeAt
theorem Try.own : ownKnob Try.prog.godebug = none := by kernel_rfl
theorem Try.laidOut : laidOutB Try.prog = true := by kernel_rfl
/-- numbers are numbers -/
def JbS (x : Jb) : Prop := I64 x.no ∧ I64 x.ready ∧ I64 x.due ∧ I64 x.need
def SxS (x : Sx) : Prop := I64 x.no ∧ I64 x.f ∧ I64 x.u
section
variable {Hh : Type} {enc : TypeId × Value → Hh} {w : World} {base b0 : Nat} {held : Bool} {r : Reach} {v : Value} {dd : DataW Hh} {ps : List MemPlace}
theorem int_of {n : Nat} {c : Value} {x : DataW Hh × List MemPlace} (h : DataW.trod enc Try.prog w base (fun _ => true) held n 3 [c] = some x) : ∃ z : Int, c = .int .i64 z ∧ I64 z := by
  obtain ⟨z, hz1, _, hz3⟩ := DataW.trod_int Try.underlying3 h
  exact ⟨z, by simpa using hz1, i64ok_of hz3⟩
theorem bool_of {n : Nat} {c : Value} {x : DataW Hh × List MemPlace} (h : DataW.trod enc Try.prog w base (fun _ => true) held n 4 [c] = some x) : ∃ z : Bool, c = .bool z := by
  obtain ⟨z, hz1, _⟩ := DataW.trod_bool Try.underlying4 h
  exact ⟨z, by simpa using hz1⟩
set_option maxRecDepth 100000 in
theorem jb_el (cs : List Value) (n : Nat) (x : DataW Hh × List MemPlace) (hl : cs.length = 5) (h : DataW.trod enc Try.prog w base (fun _ => true) held n 39 cs = some x) : ∃ y, cs = jbC y ∧ JbS y := by
  obtain ⟨xs, m, _, rfl, _, hlen, hf⟩ := DataW.trod_struct Try.underlying39 h
  have c3 : Try.prog.cellsOf 3 = 1 := by kernel_rfl
  have c4 : Try.prog.cellsOf 4 = 1 := by kernel_rfl
  match cs, hl, xs, hlen with
  | [c0, c1, c2, c3', c4'], _, [y0, y1, y2, y3, y4], _ =>
    obtain ⟨n0, rfl, g0⟩ := int_of (show DataW.trod enc Try.prog w base (fun _ => true) held m 3 [c0] = some y0 by simpa [c3] using hf 0 _ rfl)
    obtain ⟨n1, rfl, g1⟩ := int_of (show DataW.trod enc Try.prog w base (fun _ => true) held m 3 [c1] = some y1 by simpa [c3] using hf 1 _ rfl)
    obtain ⟨n2, rfl, g2⟩ := int_of (show DataW.trod enc Try.prog w base (fun _ => true) held m 3 [c2] = some y2 by simpa [c3] using hf 2 _ rfl)
    obtain ⟨n3, rfl, g3⟩ := int_of (show DataW.trod enc Try.prog w base (fun _ => true) held m 3 [c3'] = some y3 by simpa [c3] using hf 3 _ rfl)
    obtain ⟨n4, rfl⟩ := bool_of (show DataW.trod enc Try.prog w base (fun _ => true) held m 4 [c4'] = some y4 by simpa [c3, c4] using hf 4 _ rfl)
    exact ⟨⟨n0, n1, n2, n3, n4⟩, rfl, g0, g1, g2, g3⟩
set_option maxRecDepth 100000 in
theorem sx_el (cs : List Value) (n : Nat) (x : DataW Hh × List MemPlace) (hl : cs.length = 3) (h : DataW.trod enc Try.prog w base (fun _ => true) held n 41 cs = some x) : ∃ y, cs = sxC y ∧ SxS y := by
  obtain ⟨xs, m, _, rfl, _, hlen, hf⟩ := DataW.trod_struct Try.underlying41 h
  have c3 : Try.prog.cellsOf 3 = 1 := by kernel_rfl
  match cs, hl, xs, hlen with
  | [c0, c1, c2], _, [y0, y1, y2], _ =>
    obtain ⟨n0, rfl, g0⟩ := int_of (show DataW.trod enc Try.prog w base (fun _ => true) held m 3 [c0] = some y0 by simpa [c3] using hf 0 _ rfl)
    obtain ⟨n1, rfl, g1⟩ := int_of (show DataW.trod enc Try.prog w base (fun _ => true) held m 3 [c1] = some y1 by simpa [c3] using hf 1 _ rfl)
    obtain ⟨n2, rfl, g2⟩ := int_of (show DataW.trod enc Try.prog w base (fun _ => true) held m 3 [c2] = some y2 by simpa [c3] using hf 2 _ rfl)
    exact ⟨⟨n0, n1, n2⟩, rfl, g0, g1, g2⟩
set_option maxRecDepth 100000 in
theorem sp_el (cs : List Value) (n : Nat) (x : DataW Hh × List MemPlace) (hl : cs.length = 2) (h : DataW.trod enc Try.prog w base (fun _ => true) held n 24 cs = some x) : ∃ a b : Int, cs = [.int .i64 a, .int .i64 b] ∧ I64 a ∧ I64 b := by
  obtain ⟨xs, m, _, rfl, _, hlen, hf⟩ := DataW.trod_struct Try.underlying24 h
  have c3 : Try.prog.cellsOf 3 = 1 := by kernel_rfl
  match cs, hl, xs, hlen with
  | [c0, c1], _, [y0, y1], _ =>
    obtain ⟨n0, rfl, g0⟩ := int_of (show DataW.trod enc Try.prog w base (fun _ => true) held m 3 [c0] = some y0 by simpa [c3] using hf 0 _ rfl)
    obtain ⟨n1, rfl, g1⟩ := int_of (show DataW.trod enc Try.prog w base (fun _ => true) held m 3 [c1] = some y1 by simpa [c3] using hf 1 _ rfl)
    exact ⟨n0, n1, rfl, g0, g1⟩
set_option maxRecDepth 100000 in
theorem ic_el (cs : List Value) (n : Nat) (x : DataW Hh × List MemPlace) (hl : cs.length = 1) (h : DataW.trod enc Try.prog w base (fun _ => true) held n 3 cs = some x) : ∃ y, cs = ic y ∧ I64 y := by
  match cs, hl with
  | [c0], _ =>
    obtain ⟨n0, rfl, g0⟩ := int_of h
    exact ⟨n0, rfl, g0⟩
set_option maxRecDepth 100000 in
theorem open_jbs (hv : Value.okWide Try.prog w r b0 22 v) (h : DataW.Trod enc Try.prog w base (fun _ => true) held 22 v dd ps) :
    ∃ (A : Option Addr) (c : Nat) (l : List Jb), v = .slice A l.length c ∧ Sl jbC 5 w A c l ∧ (∀ x ∈ l, JbS x) :=
  open_slG (Q := JbS) Try.underlying22 (by kernel_rfl) (by decide) (fun _ => rfl) jb_el hv h
set_option maxRecDepth 100000 in
theorem open_sxs (hv : Value.okWide Try.prog w r b0 34 v) (h : DataW.Trod enc Try.prog w base (fun _ => true) held 34 v dd ps) :
    ∃ (A : Option Addr) (c : Nat) (l : List Sx), v = .slice A l.length c ∧ Sl sxC 3 w A c l ∧ (∀ x ∈ l, SxS x) :=
  open_slG (Q := SxS) Try.underlying34 (by kernel_rfl) (by decide) (fun _ => rfl) sx_el hv h
set_option maxRecDepth 100000 in
theorem open_ics (hv : Value.okWide Try.prog w r b0 49 v) (h : DataW.Trod enc Try.prog w base (fun _ => true) held 49 v dd ps) :
    ∃ (A : Option Addr) (c : Nat) (l : List Int), v = .slice A l.length c ∧ Sl ic 1 w A c l ∧ (∀ x ∈ l, I64 x) :=
  open_slG (Q := I64) Try.underlying49 (by kernel_rfl) (by decide) (fun _ => rfl) ic_el hv h
set_option maxRecDepth 100000 in
theorem open_sp (hv : Value.okWide Try.prog w r b0 24 v) (h : DataW.Trod enc Try.prog w base (fun _ => true) held 24 v dd ps) : ∃ a b : Int, v = .agg #[.int .i64 a, .int .i64 b] ∧ I64 a ∧ I64 b := by
  obtain ⟨cs, rfl, ha⟩ := okWide_struct (P := Try.prog) Try.underlying24 hv
  obtain ⟨fuel, hf⟩ := h
  obtain ⟨a, b, hy, hs⟩ := sp_el cs.toList fuel _ (by simpa [show Try.prog.cellsOf 24 = 2 by kernel_rfl] using ha) (by simpa [Value.cells] using hf)
  exact ⟨a, b, by rw [show cs = #[.int .i64 a, .int .i64 b] from Array.toList_inj.1 hy], hs⟩
end
end Go.Proofs.Ytbkokljelopcnaa

/-
  A struct argument whose fields have one cell each: ints and bools.
  Six and seven parameters.
  A slice of elements of several cells, whatever the elements, as a list.
  A slice of elements of several cells, by its cells.
  The law's arguments: grammars, terms, words, slots; what the laid variables give.
  TopProvenance: the row: what the laid variables give; the witness; the law for every input.
-/
import Derived.Test.YtkfdafeonhnloaaGreatDoorGM1
import Derived.ChangeArms
import Derived.Laws.IdiomArrays
import Derived.Test.YtkfdafeonhnloaaGreatDoorK1
import Derived.Lib.LaidU8
import Derived.Lay
import Derived.ChangeMaps5
import Derived.ChangeSame
import Derived.ChangeVars
import Derived.JoinedOf
import Derived.RowKit
import Derived.LaidLaws
import Derived.LaidHandle
import Derived.MakeChecks
import Derived.ProofKit
import Derived.Stop.Joined
namespace Go.Mine
open Go.RowKit Go.WideShapes Go.ChangeShapes Go.Deep Go.ChangeAt
section
variable {H : Type} {enc : TypeId × Value → H} {P : Program} {w : World} {base : Nat} {held : Bool}

end
end Go.Mine
namespace Go.Mine
open Go.RowKit Go.WideShapes Go.ChangeShapes Go.Deep Go.ChangeAt
section
variable {H : Type} {enc : TypeId × Value → H} {P : Program} {w : World} {base : Nat} {spare : Nat → Bool} {held : Bool}
end
end Go.Mine
namespace Go.Mine
open Go.RowKit Go.WideShapes Go.ChangeShapes Go.Deep
section
variable {H : Type} {enc : TypeId × Value → H} {P : Program} {w : World} {base : Nat} {held : Bool}
theorem open_slG {α : Type} {f : α → List Value} {sz : Nat} {Q : α → Prop} {b0 : Nat} {r : Reach} {t e : TypeId} {v : Value} {d : DataW H} {ps : List MemPlace} (ht : P.underlying t = some (.slice e)) (hC : P.cellsOf e = sz) (hpos : 0 < sz) (hsz : ∀ y, (f y).length = sz)
  (hel0 : ∀ cs n x, cs.length = sz → DataW.trod enc P w base (fun _ => true) held n e cs = some x → ∃ y, cs = f y ∧ Q y)
  (hv : Value.okWide P w r b0 t v) (h : DataW.Trod enc P w base (fun _ => true) held t v d ps) :
  ∃ (A : Option Addr) (c : Nat) (l : List α), v = .slice A l.length c ∧ Sl f sz w A c l ∧ (∀ x ∈ l, Q x) := by
 obtain ⟨a0, len0, cap0, rfl⟩ := okWide_slice ht hv
 obtain ⟨fuel, hf⟩ := h
 rcases open_slice ht hf with ⟨hcs, _⟩ | ⟨a, len, cap, m, n, D, Pl, hcs, hb, hl, hm, hmm, hx, hi⟩
 ·simp only [Value.cells, List.cons.injEq, and_true, Value.slice.injEq] at hcs
  obtain ⟨rfl, rfl, rfl⟩ := hcs
  exact ⟨none, 0, [], rfl, Sl.nil (by omega), by simp⟩
 ·simp only [Value.cells, List.cons.injEq, and_true, Value.slice.injEq] at hcs
  obtain ⟨rfl, rfl, rfl⟩ := hcs
  have hmc : m = cap0 := by simpa using hmm
  have hel : ∀ i, i < len0 → ∃ x : α, Q x ∧ w.cells? base (a.add (i * sz)) sz = some (f x) := by
   intro i hil
   obtain ⟨cs', hc, ht'⟩ := hi i (by omega)
   rw [hC] at hc
   obtain ⟨_, hcl, hat⟩ := World.cells?_some hc
   obtain ⟨y, rfl, hy⟩ := hel0 cs' _ _ hcl ht'
   exact ⟨y, hy, hc⟩
  have key : ∀ k, k ≤ len0 → ∃ l : List α, l.length = k ∧ (∀ x ∈ l, Q x) ∧ ∀ i x, l[i]? = some x → w.cells? base (a.add (i * sz)) sz = some (f x) := by
   intro k
   induction k with
   | zero => exact fun _ => ⟨[], rfl, by simp, by simp⟩
   | succ k ih =>
    intro hk
    obtain ⟨l, h1, h2, h3⟩ := ih (by omega)
    obtain ⟨x, x1, x3⟩ := hel k (by omega)
    refine ⟨l ++ [x], by simp [h1], ?_, ?_⟩
    ·intro y hy
     rcases List.mem_append.1 hy with hy | hy
     ·exact h2 y hy
     ·simp at hy; subst hy; exact x1
    ·intro i y hy
     by_cases hi : i < l.length
     ·rw [List.getElem?_append_left hi] at hy; exact h3 i y hy
     ·rw [List.getElem?_append_right (by omega)] at hy
      have : i = l.length := by
       rcases Nat.lt_or_ge (i - l.length) 1 with h | h
       ·omega
       ·rw [List.getElem?_eq_none (by simpa using h)] at hy; cases hy
      subst this
      simp at hy; subst hy
      rw [h1]; exact x3
  obtain ⟨l, l1, l2, l3⟩ := key len0 (Nat.le_refl _)
  subst l1
  refine ⟨some a, cap0, l, rfl, ⟨hl, by simpa [maxLen] using hm, fun x _ => hsz x, fun hne => ?_⟩, l2⟩
  have hget : ∀ k x, l[k]? = some x → ∀ j, j < sz → w.cell? ((a.add (k * sz)).add j) = (f x)[j]? := fun k x hx j hj => (World.cells?_some (l3 k x hx)).2.2 j hj
  have h0 : l[0]? = some (l[0]'(List.length_pos_iff.2 hne)) := List.getElem?_eq_getElem _
  have hc0 := hget 0 _ h0 0 hpos
  have hv0 : (f (l[0]'(List.length_pos_iff.2 hne)))[0]? = some ((f (l[0]'(List.length_pos_iff.2 hne)))[0]'(by rw [hsz]; exact hpos)) := List.getElem?_eq_getElem _
  rw [hv0] at hc0
  have e0 : (a.add (0 * sz)).add 0 = a := by simp [Addr.add]
  rw [e0] at hc0
  have hspot := World.cell?_spot hc0
  obtain ⟨b, off, sp⟩ := a
  dsimp only at hspot
  subst hspot
  have hbl : b < w.heap.size := by
   rcases Nat.lt_or_ge b w.heap.size with h | h
   ·exact h
   ·simp [World.cell?, Array.getElem?_eq_none h] at hc0
  refine ⟨b, off, rfl, hbl, fun i v hv => ?_⟩
  obtain ⟨x, hx, hvx⟩ := flat_get' _ sz hpos l i v (fun x _ => hsz x) hv
  have hj : i % sz < sz := Nat.mod_lt _ hpos
  have := hget _ x hx _ hj
  rw [Go.WideShapes.add_plain, Go.WideShapes.add_plain, hvx] at this
  rw [← this]
  congr 2
  have := Nat.div_add_mod i sz
  rw [Nat.mul_comm] at this
  omega
end
end Go.Mine
namespace Go.Mine
open Go.RowKit Go.WideShapes Go.ChangeShapes Go.Deep
section
variable {H : Type} {enc : TypeId × Value → H} {P : Program} {w : World} {base : Nat} {held : Bool}
theorem open_slC {α : Type} {f : α → List Value} {sz : Nat} {Q : α → Prop} {t e : TypeId} {fuel : Nat} {cs : List Value} {x : DataW H × List MemPlace} (ht : P.underlying t = some (.slice e)) (hC : P.cellsOf e = sz) (hpos : 0 < sz) (hsz : ∀ y, (f y).length = sz)
  (hel0 : ∀ cs n x, cs.length = sz → DataW.trod enc P w base (fun _ => true) held n e cs = some x → ∃ y, cs = f y ∧ Q y)
  (h : DataW.trod enc P w base (fun _ => true) held fuel t cs = some x) :
  ∃ (A : Option Addr) (c : Nat) (l : List α), cs = [.slice A l.length c] ∧ Sl f sz w A c l ∧ (∀ x ∈ l, Q x) := by
 have hf := h
 rcases open_slice ht hf with ⟨hcs, _⟩ | ⟨a, len, cap, m, n, D, Pl, hcs, hb, hl, hm, hmm, hx, hi⟩
 ·subst hcs
  exact ⟨none, 0, [], rfl, Sl.nil (by omega), by simp⟩
 ·subst hcs
  have hmc : m = cap := by simpa using hmm
  have hel : ∀ i, i < len → ∃ x : α, Q x ∧ w.cells? base (a.add (i * sz)) sz = some (f x) := by
   intro i hil
   obtain ⟨cs', hc, ht'⟩ := hi i (by omega)
   rw [hC] at hc
   obtain ⟨_, hcl, hat⟩ := World.cells?_some hc
   obtain ⟨y, rfl, hy⟩ := hel0 cs' _ _ hcl ht'
   exact ⟨y, hy, hc⟩
  have key : ∀ k, k ≤ len → ∃ l : List α, l.length = k ∧ (∀ x ∈ l, Q x) ∧ ∀ i x, l[i]? = some x → w.cells? base (a.add (i * sz)) sz = some (f x) := by
   intro k
   induction k with
   | zero => exact fun _ => ⟨[], rfl, by simp, by simp⟩
   | succ k ih =>
    intro hk
    obtain ⟨l, h1, h2, h3⟩ := ih (by omega)
    obtain ⟨x, x1, x3⟩ := hel k (by omega)
    refine ⟨l ++ [x], by simp [h1], ?_, ?_⟩
    ·intro y hy
     rcases List.mem_append.1 hy with hy | hy
     ·exact h2 y hy
     ·simp at hy; subst hy; exact x1
    ·intro i y hy
     by_cases hi : i < l.length
     ·rw [List.getElem?_append_left hi] at hy; exact h3 i y hy
     ·rw [List.getElem?_append_right (by omega)] at hy
      have : i = l.length := by
       rcases Nat.lt_or_ge (i - l.length) 1 with h | h
       ·omega
       ·rw [List.getElem?_eq_none (by simpa using h)] at hy; cases hy
      subst this
      simp at hy; subst hy
      rw [h1]; exact x3
  obtain ⟨l, l1, l2, l3⟩ := key len (Nat.le_refl _)
  subst l1
  refine ⟨some a, cap, l, rfl, ⟨hl, by simpa [maxLen] using hm, fun x _ => hsz x, fun hne => ?_⟩, l2⟩
  have hget : ∀ k x, l[k]? = some x → ∀ j, j < sz → w.cell? ((a.add (k * sz)).add j) = (f x)[j]? := fun k x hx j hj => (World.cells?_some (l3 k x hx)).2.2 j hj
  have h0 : l[0]? = some (l[0]'(List.length_pos_iff.2 hne)) := List.getElem?_eq_getElem _
  have hc0 := hget 0 _ h0 0 hpos
  have hv0 : (f (l[0]'(List.length_pos_iff.2 hne)))[0]? = some ((f (l[0]'(List.length_pos_iff.2 hne)))[0]'(by rw [hsz]; exact hpos)) := List.getElem?_eq_getElem _
  rw [hv0] at hc0
  have e0 : (a.add (0 * sz)).add 0 = a := by simp [Addr.add]
  rw [e0] at hc0
  have hspot := World.cell?_spot hc0
  obtain ⟨b, off, sp⟩ := a
  dsimp only at hspot
  subst hspot
  have hbl : b < w.heap.size := by
   rcases Nat.lt_or_ge b w.heap.size with h | h
   ·exact h
   ·simp [World.cell?, Array.getElem?_eq_none h] at hc0
  refine ⟨b, off, rfl, hbl, fun i v hv => ?_⟩
  obtain ⟨x, hx, hvx⟩ := flat_get' _ sz hpos l i v (fun x _ => hsz x) hv
  have hj : i % sz < sz := Nat.mod_lt _ hpos
  have := hget _ x hx _ hj
  rw [Go.WideShapes.add_plain, Go.WideShapes.add_plain, hvx] at this
  rw [← this]
  congr 2
  have := Nat.div_add_mod i sz
  rw [Nat.mul_comm] at this
  omega
end
end Go.Mine
namespace Go.Mine
open Go.RowKit Go.WideShapes Go.ChangeShapes Go.Deep
section
variable {H : Type} {enc : TypeId × Value → H} {P : Program} {w : World} {base : Nat} {spare : Nat → Bool} {held : Bool}
theorem trodAll_nine {t t1 t2 t3 t4 t5 t6 t7 t8 : TypeId} {args : Array Value} {ds : List (DataW H)} {ps : List MemPlace} (h : DataW.TrodAll enc P w base spare held [t, t1, t2, t3, t4, t5, t6, t7, t8] args.toList ds ps) :
  ∃ v v1 v2 v3 v4 v5 v6 v7 v8 d d1 d2 d3 d4 d5 d6 d7 d8 p p1 p2 p3 p4 p5 p6 p7 p8, args = #[v, v1, v2, v3, v4, v5, v6, v7, v8] ∧ ds = [d, d1, d2, d3, d4, d5, d6, d7, d8] ∧ ps = p ++ p1 ++ p2 ++ p3 ++ p4 ++ p5 ++ p6 ++ p7 ++ p8 ∧ DataW.Trod enc P w base spare held t v d p ∧ DataW.Trod enc P w base spare held t1 v1 d1 p1 ∧ DataW.Trod enc P w base spare held t2 v2 d2 p2 ∧ DataW.Trod enc P w base spare held t3 v3 d3 p3 ∧ DataW.Trod enc P w base spare held t4 v4 d4 p4 ∧ DataW.Trod enc P w base spare held t5 v5 d5 p5 ∧ DataW.Trod enc P w base spare held t6 v6 d6 p6 ∧ DataW.Trod enc P w base spare held t7 v7 d7 p7 ∧ DataW.Trod enc P w base spare held t8 v8 d8 p8 := by
 obtain ⟨v, vs, d, ds', p, q, hargs, rfl, rfl, hd, hrest⟩ := trodAll_cons h
 obtain ⟨v1, vs1, d1, ds1, p1, q1, rfl, rfl, rfl, hd1, hrest1⟩ := trodAll_cons hrest
 obtain ⟨v2, vs2, d2, ds2, p2, q2, rfl, rfl, rfl, hd2, hrest2⟩ := trodAll_cons hrest1
 obtain ⟨v3, vs3, d3, ds3, p3, q3, rfl, rfl, rfl, hd3, hrest3⟩ := trodAll_cons hrest2
 obtain ⟨v4, vs4, d4, ds4, p4, q4, rfl, rfl, rfl, hd4, hrest4⟩ := trodAll_cons hrest3
 obtain ⟨v5, vs5, d5, ds5, p5, q5, rfl, rfl, rfl, hd5, hrest5⟩ := trodAll_cons hrest4
 obtain ⟨v6, vs6, d6, ds6, p6, q6, rfl, rfl, rfl, hd6, hrest6⟩ := trodAll_cons hrest5
 obtain ⟨v7, vs7, d7, ds7, p7, q7, rfl, rfl, rfl, hd7, hrest7⟩ := trodAll_cons hrest6
 obtain ⟨v8, vs8, d8, ds8, p8, q8, rfl, rfl, rfl, hd8, hrest8⟩ := trodAll_cons hrest7
 obtain ⟨rfl, rfl, rfl⟩ := trodAll_nil hrest8
 exact ⟨v, v1, v2, v3, v4, v5, v6, v7, v8, d, d1, d2, d3, d4, d5, d6, d7, d8, p, p1, p2, p3, p4, p5, p6, p7, p8, by cases args; simp_all, rfl, by simp, hd, hd1, hd2, hd3, hd4, hd5, hd6, hd7, hd8⟩
end
end Go.Mine
namespace Go.Proofs.YtkfdafeonhnloaaGreatDoor
open Go.RowKit Go.Shelf Go.Mine Go.Mine.C Go.ChangeShapes Go.WideShapes Go.ChangeAt
theorem Tryz.own : ownKnob Tryz.prog.godebug = none := by kernel_rfl
theorem Tryz.laidOut : laidOutB Tryz.prog = true := by kernel_rfl
theorem cz1 : Tryz.prog.cellsOf 3 = 1 ∧ Tryz.prog.cellsOf 4 = 1 ∧ Tryz.prog.cellsOf 5 = 1 ∧ Tryz.prog.cellsOf 9 = 1 ∧ Tryz.prog.cellsOf 22 = 1 ∧ Tryz.prog.cellsOf 23 = 1 ∧ Tryz.prog.cellsOf 24 = 1 ∧ Tryz.prog.cellsOf 108 = 1 ∧ Tryz.prog.cellsOf 109 = 1 :=
 ⟨by kernel_rfl, by kernel_rfl, by kernel_rfl, by kernel_rfl, by kernel_rfl, by kernel_rfl, by kernel_rfl, by kernel_rfl, by kernel_rfl⟩
section
variable {Hh : Type} {enc : TypeId × Value → Hh} {w : World} {base b0 : Nat} {held : Bool} {r : Reach} {v : Value} {dd : DataW Hh} {ps : List MemPlace}
noncomputable abbrev Rd (enc : TypeId × Value → Hh) (w : World) (base : Nat) (held : Bool) (n : Nat) (t : TypeId) (cs : List Value) : Option (DataW Hh × List MemPlace) := DataW.trod enc Tryz.prog w base (fun _ => true) held n t cs
theorem int_of {n : Nat} {c : Value} {x : DataW Hh × List MemPlace} (h : Rd enc w base held n 3 [c] = some x) : ∃ z : Int, c = .int .i64 z := by
 obtain ⟨z, hz1, _, _⟩ := DataW.trod_int Tryz.underlying3 h
 exact ⟨z, by simpa using hz1⟩
theorem bool_of {n : Nat} {c : Value} {x : DataW Hh × List MemPlace} (h : Rd enc w base held n 4 [c] = some x) : ∃ z : Bool, c = .bool z := by
 obtain ⟨z, hz1, _⟩ := DataW.trod_bool Tryz.underlying4 h
 exact ⟨z, by simpa using hz1⟩
theorem str_of {n : Nat} {c : Value} {x : DataW Hh × List MemPlace} (h : Rd enc w base held n 9 [c] = some x) : ∃ s : ByteArray, c = .string s ∧ okS s := by
 obtain ⟨z, hz1, _, hz⟩ := DataW.trod_string Tryz.underlying9 h
 exact ⟨z, by simpa using hz1, hz⟩
theorem strs_of {n : Nat} {cs : List Value} {x : DataW Hh × List MemPlace} (h : Rd enc w base held n 22 cs = some x) : ∃ (A : Option Addr) (k : Nat) (l : List ByteArray), cs = [.slice A l.length k] ∧ Sl sc 1 w A k l ∧ ∀ s ∈ l, okS s :=
 open_one (fun s => .string s) okS Tryz.underlying22 cz1.2.2.2.1 (fun _ _ _ hz => str_of hz) h
theorem slots_of {n : Nat} {cs : List Value} {x : DataW Hh × List MemPlace} (h : Rd enc w base held n 28 cs = some x) : ∃ (A : Option Addr) (k : Nat) (l : List Int), cs = [.slice A l.length k] ∧ Sl u8c 1 w A k l ∧ ∀ s ∈ l, 0 ≤ s ∧ s < 256 :=
 open_one (fun s => .int .u8 s) (fun s => 0 ≤ s ∧ s < 256) Tryz.underlying28 cz1.2.2.1 (fun _ _ _ hz => by
  obtain ⟨z, hz1, _, hz3⟩ := DataW.trod_int Tryz.underlying5 hz
  obtain ⟨m, rfl, hm⟩ := u8_nat hz3
  exact ⟨m, by simpa using hz1, by omega, by omega⟩) h
set_option maxRecDepth 100000 in
theorem part_el (cs : List Value) (n : Nat) (x : DataW Hh × List MemPlace) (hl : cs.length = 3) (h : Rd enc w base held n 125 cs = some x) : ∃ y, cs = partC y ∧ okS y.cat := by
 obtain ⟨xs, m, _, rfl, _, hlen, hf⟩ := DataW.trod_struct Tryz.underlying125 h
 obtain ⟨c3, c4, c5, c9, c22, c23, c24, c108, c109⟩ := cz1
 match cs, hl, xs, hlen with
 | [a0, a1, a2], _, [y0, y1, y2], _ =>
  obtain ⟨n0, rfl, g0⟩ := str_of (show Rd enc w base held m 9 [a0] = some y0 by simpa [c9] using hf 0 _ rfl)
  obtain ⟨n1, rfl⟩ := int_of (show Rd enc w base held m 3 [a1] = some y1 by simpa [c3] using hf 1 _ rfl)
  obtain ⟨n2, rfl, _⟩ := str_of (show Rd enc w base held m 9 [a2] = some y2 by simpa [c9] using hf 2 _ rfl)
  exact ⟨⟨n0, n1, n2⟩, rfl, g0⟩
set_option maxRecDepth 100000 in
theorem give_el (cs : List Value) (n : Nat) (x : DataW Hh × List MemPlace) (hl : cs.length = 2) (h : Rd enc w base held n 127 cs = some x) : ∃ y, cs = giveC y ∧ True := by
 obtain ⟨xs, m, _, rfl, _, hlen, hf⟩ := DataW.trod_struct Tryz.underlying127 h
 obtain ⟨c3, c4, c5, c9, c22, c23, c24, c108, c109⟩ := cz1
 match cs, hl, xs, hlen with
 | [a0, a1], _, [y0, y1], _ =>
  obtain ⟨n0, rfl⟩ := int_of (show Rd enc w base held m 3 [a0] = some y0 by simpa [c3] using hf 0 _ rfl)
  obtain ⟨n1, rfl, _⟩ := str_of (show Rd enc w base held m 9 [a1] = some y1 by simpa [c9] using hf 1 _ rfl)
  exact ⟨⟨n0, n1⟩, rfl, trivial⟩
theorem parts_of {n : Nat} {cs : List Value} {x : DataW Hh × List MemPlace} (h : Rd enc w base held n 108 cs = some x) : ∃ (A : Option Addr) (k : Nat) (l : List PartM), cs = [.slice A l.length k] ∧ Sl partC 3 w A k l ∧ ∀ s ∈ l, okS s.cat :=
 open_slC (f := partC) (sz := 3) (Q := fun p : PartM => okS p.cat) Tryz.underlying108 (by kernel_rfl) (by decide) (fun _ => rfl) part_el h
theorem gives_of {n : Nat} {cs : List Value} {x : DataW Hh × List MemPlace} (h : Rd enc w base held n 109 cs = some x) : ∃ (A : Option Addr) (k : Nat) (l : List GiveM), cs = [.slice A l.length k] ∧ Sl giveC 2 w A k l := by
 obtain ⟨A, k, l, h1, h2, _⟩ := open_slC (f := giveC) (sz := 2) (Q := fun _ => True) Tryz.underlying109 (by kernel_rfl) (by decide) (fun _ => rfl) give_el h
 exact ⟨A, k, l, h1, h2⟩
set_option maxRecDepth 100000 in
theorem ent_el (cs : List Value) (n : Nat) (x : DataW Hh × List MemPlace) (hl : cs.length = 5) (h : Rd enc w base held n 107 cs = some x) : ∃ y, cs = entC y ∧ (EntOk w y ∧ okS y.cat) := by
 obtain ⟨xs, m, _, rfl, _, hlen, hf⟩ := DataW.trod_struct Tryz.underlying107 h
 obtain ⟨c3, c4, c5, c9, c22, c23, c24, c108, c109⟩ := cz1
 match cs, hl, xs, hlen with
 | [a0, a1, a2, a3, a4], _, [y0, y1, y2, y3, y4], _ =>
  obtain ⟨n0, rfl, _⟩ := str_of (show Rd enc w base held m 9 [a0] = some y0 by simpa [c9] using hf 0 _ rfl)
  obtain ⟨n1, rfl, g1⟩ := str_of (show Rd enc w base held m 9 [a1] = some y1 by simpa [c9] using hf 1 _ rfl)
  obtain ⟨n2, rfl⟩ := int_of (show Rd enc w base held m 3 [a2] = some y2 by simpa [c3] using hf 2 _ rfl)
  obtain ⟨A, k, l, e3, g3, _⟩ := strs_of (show Rd enc w base held m 22 [a3] = some y3 by simpa [c22] using hf 3 _ rfl)
  obtain ⟨n4, rfl⟩ := int_of (show Rd enc w base held m 3 [a4] = some y4 by simpa [c3] using hf 4 _ rfl)
  obtain rfl : a3 = .slice A l.length k := by simpa using e3
  exact ⟨⟨n0, n1, n2, A, k, l, n4⟩, rfl, g3, g1⟩
set_option maxRecDepth 100000 in
theorem rule_el (cs : List Value) (n : Nat) (x : DataW Hh × List MemPlace) (hl : cs.length = 5) (h : Rd enc w base held n 111 cs = some x) : ∃ y, cs = ruleC y ∧ (RuleOkW w y ∧ okS y.cat ∧ ∀ p ∈ y.parts, okS p.cat) := by
 obtain ⟨xs, m, _, rfl, _, hlen, hf⟩ := DataW.trod_struct Tryz.underlying111 h
 obtain ⟨c3, c4, c5, c9, c22, c23, c24, c108, c109⟩ := cz1
 match cs, hl, xs, hlen with
 | [a0, a1, a2, a3, a4], _, [y0, y1, y2, y3, y4], _ =>
  obtain ⟨n0, rfl, g0⟩ := str_of (show Rd enc w base held m 9 [a0] = some y0 by simpa [c9] using hf 0 _ rfl)
  obtain ⟨n1, rfl⟩ := int_of (show Rd enc w base held m 3 [a1] = some y1 by simpa [c3] using hf 1 _ rfl)
  obtain ⟨A, k, l, e2, g2, f2⟩ := parts_of (show Rd enc w base held m 108 [a2] = some y2 by simpa [c108] using hf 2 _ rfl)
  obtain ⟨B, k', l', e3, g3⟩ := gives_of (show Rd enc w base held m 109 [a3] = some y3 by simpa [c109] using hf 3 _ rfl)
  obtain ⟨n4, rfl⟩ := int_of (show Rd enc w base held m 3 [a4] = some y4 by simpa [c3] using hf 4 _ rfl)
  obtain rfl : a2 = .slice A l.length k := by simpa using e2
  obtain rfl : a3 = .slice B l'.length k' := by simpa using e3
  exact ⟨⟨n0, n1, A, k, l, B, k', l', n4⟩, rfl, ⟨g2, g3⟩, g0, f2⟩
set_option maxRecDepth 100000 in
theorem term_el (cs : List Value) (n : Nat) (x : DataW Hh × List MemPlace) (hl : cs.length = 8) (h : Rd enc w base held n 85 cs = some x) : ∃ y, cs = termC y ∧ TermOk w y := by
 obtain ⟨xs, m, _, rfl, _, hlen, hf⟩ := DataW.trod_struct Tryz.underlying85 h
 obtain ⟨c3, c4, c5, c9, c22, c23, c24, c108, c109⟩ := cz1
 match cs, hl, xs, hlen with
 | [a0, a1, a2, a3, a4, a5, a6, a7], _, [y0, y1, y2, y3, y4, y5, y6, y7], _ =>
  obtain ⟨n0, rfl⟩ := int_of (show Rd enc w base held m 3 [a0] = some y0 by simpa [c3] using hf 0 _ rfl)
  obtain ⟨n1, rfl⟩ := int_of (show Rd enc w base held m 3 [a1] = some y1 by simpa [c3] using hf 1 _ rfl)
  obtain ⟨n2, rfl⟩ := int_of (show Rd enc w base held m 3 [a2] = some y2 by simpa [c3] using hf 2 _ rfl)
  obtain ⟨n3, rfl⟩ := int_of (show Rd enc w base held m 3 [a3] = some y3 by simpa [c3] using hf 3 _ rfl)
  obtain ⟨A, k, l, e4, g4, _⟩ := strs_of (show Rd enc w base held m 22 [a4] = some y4 by simpa [c22] using hf 4 _ rfl)
  obtain ⟨B, k', l', e5, g5, _⟩ := strs_of (show Rd enc w base held m 22 [a5] = some y5 by simpa [c22] using hf 5 _ rfl)
  obtain ⟨n6, rfl, _⟩ := str_of (show Rd enc w base held m 9 [a6] = some y6 by simpa [c9] using hf 6 _ rfl)
  obtain ⟨n7, rfl⟩ := bool_of (show Rd enc w base held m 4 [a7] = some y7 by simpa [c4] using hf 7 _ rfl)
  obtain rfl : a4 = .slice A l.length k := by simpa using e4
  obtain rfl : a5 = .slice B l'.length k' := by simpa using e5
  exact ⟨⟨n0, n1, n2, n3, A, k, l, B, k', l', n6, n7⟩, rfl, g4, g5⟩
set_option maxRecDepth 100000 in
theorem gram_el (cs : List Value) (n : Nat) (x : DataW Hh × List MemPlace) (hl : cs.length = 6) (h : Rd enc w base held n 26 cs = some x) : ∃ g, cs = gramC g ∧ GramOk w g ∧ GramS g := by
 obtain ⟨xs, m, _, rfl, _, hlen, hf⟩ := DataW.trod_struct Tryz.underlying26 h
 obtain ⟨c3, c4, c5, c9, c22, c23, c24, c108, c109⟩ := cz1
 match cs, hl, xs, hlen with
 | [a0, a1, a2, a3, a4, a5], _, [y0, y1, y2, y3, y4, y5], _ =>
  obtain ⟨n0, rfl, _⟩ := str_of (show Rd enc w base held m 9 [a0] = some y0 by simpa [c9] using hf 0 _ rfl)
  obtain ⟨A, k, l, e1, g1, s1⟩ := strs_of (show Rd enc w base held m 22 [a1] = some y1 by simpa [c22] using hf 1 _ rfl)
  obtain ⟨n2, rfl, s2⟩ := str_of (show Rd enc w base held m 9 [a2] = some y2 by simpa [c9] using hf 2 _ rfl)
  obtain ⟨n3, rfl⟩ := int_of (show Rd enc w base held m 3 [a3] = some y3 by simpa [c3] using hf 3 _ rfl)
  obtain ⟨B, k', l', e4, g4, q4⟩ := open_slC (f := entC) (sz := 5) (Q := fun y => EntOk w y ∧ okS y.cat) Tryz.underlying23 (by kernel_rfl) (by decide) (fun _ => rfl) ent_el (show Rd enc w base held m 23 [a4] = some y4 by simpa [c23] using hf 4 _ rfl)
  obtain ⟨C, k2, l2, e5, g5, q5⟩ := open_slC (f := ruleC) (sz := 5) (Q := fun y => RuleOkW w y ∧ okS y.cat ∧ ∀ p ∈ y.parts, okS p.cat) Tryz.underlying24 (by kernel_rfl) (by decide) (fun _ => rfl) rule_el (show Rd enc w base held m 24 [a5] = some y5 by simpa [c24] using hf 5 _ rfl)
  obtain rfl : a1 = .slice A l.length k := by simpa using e1
  obtain rfl : a4 = .slice B l'.length k' := by simpa using e4
  obtain rfl : a5 = .slice C l2.length k2 := by simpa using e5
  exact ⟨⟨n0, A, k, l, n2, n3, B, k', l', C, k2, l2⟩, rfl, ⟨g1, g4, g5, fun y hy => (q4 y hy).1, fun y hy => (q5 y hy).1⟩, s2, s1, fun y hy => (q4 y hy).2, fun y hy => (q5 y hy).2.1, fun y hy => (q5 y hy).2.2⟩
set_option maxRecDepth 100000 in
theorem open_gram (hv : Value.okWide Tryz.prog w r b0 26 v) (h : DataW.Trod enc Tryz.prog w base (fun _ => true) held 26 v dd ps) : ∃ g, v = gramV g ∧ GramOk w g ∧ GramS g := by
 obtain ⟨a, rfl, ha⟩ := okWide_struct (P := Tryz.prog) Tryz.underlying26 hv
 obtain ⟨fuel, hf⟩ := h
 obtain ⟨g, hg, h1, h2⟩ := gram_el a.toList fuel _ (by simpa [show Tryz.prog.cellsOf 26 = 6 by kernel_rfl] using ha) (by simpa [Value.cells] using hf)
 exact ⟨g, by unfold gramV; rw [show a = (gramC g).toArray by rw [← hg]]; rfl, h1, h2⟩
set_option maxRecDepth 100000 in
theorem open_terms (hv : Value.okWide Tryz.prog w r b0 27 v) (h : DataW.Trod enc Tryz.prog w base (fun _ => true) held 27 v dd ps) : ∃ (A : Option Addr) (c : Nat) (l : List TermH), v = .slice A l.length c ∧ Sl termC 8 w A c l ∧ ∀ x ∈ l, TermOk w x :=
 open_slG (f := termC) (sz := 8) (Q := TermOk w) Tryz.underlying27 (by kernel_rfl) (by decide) (fun _ => rfl) term_el hv h
set_option maxRecDepth 100000 in
theorem open_words (hv : Value.okWide Tryz.prog w r b0 22 v) (h : DataW.Trod enc Tryz.prog w base (fun _ => true) held 22 v dd ps) : ∃ (A : Option Addr) (c : Nat) (l : List ByteArray), v = .slice A l.length c ∧ Sl sc 1 w A c l := by
 obtain ⟨a0, len0, cap0, rfl⟩ := okWide_slice Tryz.underlying22 hv
 obtain ⟨fuel, hf⟩ := h
 obtain ⟨A, c, l, h1, h2, _⟩ := strs_of hf
 exact ⟨A, c, l, by simpa [Value.cells] using h1, h2⟩
set_option maxRecDepth 100000 in
theorem open_slots (hv : Value.okWide Tryz.prog w r b0 28 v) (h : DataW.Trod enc Tryz.prog w base (fun _ => true) held 28 v dd ps) : ∃ (A : Option Addr) (c : Nat) (l : List Int), v = .slice A l.length c ∧ Sl u8c 1 w A c l ∧ ∀ s ∈ l, 0 ≤ s ∧ s < 256 := by
 obtain ⟨a0, len0, cap0, rfl⟩ := okWide_slice Tryz.underlying28 hv
 obtain ⟨fuel, hf⟩ := h
 obtain ⟨A, c, l, h1, h2, h3⟩ := slots_of hf
 exact ⟨A, c, l, by simpa [Value.cells] using h1, h2, h3⟩
end
end Go.Proofs.YtkfdafeonhnloaaGreatDoor
namespace Go.Proofs.YtkfdafeonhnloaaGreatDoor
open Go.RowKit Go.Shelf Go.Mine Go.Mine.C Go.ChangeShapes Go.WideShapes Go.ChangeAt
set_option maxRecDepth 100000
theorem first_eq : Rows.laid_unicode_utf8_first = Lib.firstData := by kernel_rfl
theorem accept_eq : (Rows.laid_unicode_utf8_acceptRanges : DataW Unit) = Lib.acceptData := by kernel_rfl
theorem ascii_eq : (Rows.laid_strings_asciiSpace : DataW Unit) = Lib.tabData .u8 Lib.asciiSpaceTab := by kernel_rfl
theorem u8extra : U8Extra Tryz.prog sh_lays197_ren := ⟨by kernel_rfl, by kernel_rfl, by kernel_rfl, by kernel_rfl, by kernel_rfl, by kernel_rfl, by kernel_rfl⟩
theorem gAscii : Tryz.prog.globalNamed "strings.asciiSpace" = some 1 := by kernel_rfl
theorem tAscii : (Tryz.prog.globals[1]?).map (·.type) = some 251 := by kernel_rfl
theorem c251 : Tryz.prog.cellsOf 251 = 256 := by kernel_rfl
theorem c5 : Tryz.prog.cellsOf 5 = 1 := by kernel_rfl
theorem env_of_laid {W : World} (h : laidMet Tryz.prog Rows.topProvenanceRow.laid W) : Env W := by
 have h1 : Lib.VarReads Tryz.prog W "unicode/utf8.acceptRanges" Rows.laid_unicode_utf8_acceptRanges := Lib.laidMet.reads h (.head _)
 have h2 : Lib.VarReads Tryz.prog W "strings.asciiSpace" Rows.laid_strings_asciiSpace := Lib.laidMet.reads h (.tail _ (.tail _ (.head _)))
 have h3 : Lib.VarReads Tryz.prog W "unicode/utf8.first" Rows.laid_unicode_utf8_first := Lib.laidMet.reads h (.tail _ (.tail _ (.tail _ (.head _))))
 rw [accept_eq] at h1
 rw [ascii_eq] at h2
 rw [first_eq] at h3
 have hU : Lib.Utf8Tabs 2 3 W := utf8Tabs_of_reads (ρ := sh_lays197_ren) { sh_lays197 with } u8extra h3 h1
 refine ⟨hU, ?_, ?_⟩
 ·have h0 := (hU.2 0 (by decide)).1
  rcases Nat.lt_or_ge 3 W.heap.size with h' | h'
  ·exact h'
  ·rw [World.cell?, Array.getElem?_eq_none h'] at h0; cases h0
 ·obtain ⟨g, t, cs, fuel, p, hg, hty, hvar, hd⟩ := h2
  obtain rfl := Option.some.inj (gAscii.symm.trans hg)
  obtain rfl := Option.some.inj (tAscii.symm.trans hty)
  unfold Lib.TabIs
  rw [hvar, ← Lib.cells_of_tab Tryz.underlying251 Tryz.underlying5 c5 c251 hd]
theorem topProvenance_lifted (os : Os) (started : os.Started) (H : Type) (enc : TypeId × Value → H) :
  ReturnsInHanded {} Tryz.checked os 3 .any (fun w args => (Rows.topProvenanceSpec.pre enc Tryz.prog Tryz.f3 [] false w args ∧ laidMetH Tryz.prog Rows.topProvenanceRow.laid w) ∧ sizedMet enc Tryz.prog Tryz.f3 (OpenSpec.ofChange Rows.topProvenanceSpec) false w args)
   (Rows.topProvenanceSpec.post enc Tryz.prog Tryz.f3 false true false false) := by
 refine returnsInHanded_of_change_and (C := Tryz.checked) (X := fun w _ => laidMetH Tryz.prog Rows.topProvenanceRow.laid w) (fun _ _ _ hh h => h.of_heap hh) Tryz.own started (by kernel_rfl) Tryz.func3
  (ChangeSpec.witness_shaped (enc := enc) (C := Tryz.checked) (os := os) (X := fun w _ => laidMetH Tryz.prog Rows.topProvenanceRow.laid w) false (World.laidAll Tryz.prog os Rows.topProvenanceRow.laid)
   #[.agg #[.string ByteArray.empty, .slice none 0 0, .string ByteArray.empty, .int .i64 0, .slice none 0 0, .slice none 0 0], .slice none 0 0, .int .i64 0, .slice none 0 0, .int .i64 0, .int .i64 0, .int .u8 0, .string ByteArray.empty, .slice none 0 0] 8 (World.laidAll_os _ _ _)
   (World.shaped_of_ZipB (by kernel_rfl) (by kernel_rfl)) (by kernel_rfl) (by kernel_rfl) (by kernel_rfl)
   (by rw [MakeChecks.laidMetH_plain _ _ _ (by kernel_rfl)]; exact laidMet_laidAll _ (by kernel_rfl) (by kernel_rfl))) ?_
 intro W base args ds gs before hval0 hW _ _ hL _
 have hval : ∀ (j : Nat) t v, Tryz.f3.params[j]? = some t → args[j]? = some v → Value.okWide Tryz.prog W .any base t v := hval0
 have hW' := hW
 obtain ⟨p, q, hA0, hV, rfl, hfz, hnd⟩ := hW
 have hA : DataW.TrodAll enc Tryz.prog W 0 (fun _ => true) true Tryz.f3.params.toList args.toList ds p := hA0
 have hAk := hA
 rw [Tryz.params3] at hA hval
 obtain ⟨v0, v1, v2, v3, v4, v5, v6, v7, v8, d0, d1, d2, d3, d4, d5, d6, d7, d8, p0, p1, p2, p3, p4, p5, p6, p7, p8, rfl, rfl, rfl, h0, h1, h2, h3, h4, h5, h6, h7, h8⟩ := trodAll_nine hA
 obtain ⟨rfl, rfl⟩ := trodVars_none hV
 obtain ⟨g, rfl, hG, hgs⟩ := open_gram (hval 0 26 v0 rfl rfl) h0
 obtain ⟨lA, lC, l, rfl, hl, hlo⟩ := open_terms (hval 1 27 v1 rfl rfl) h1
 obtain ⟨lang, rfl, rfl, rfl, _⟩ := open_int Tryz.underlying3 (hval 2 3 v2 rfl rfl) h2
 obtain ⟨wA, wC, words, rfl, hw⟩ := open_words (hval 3 22 v3 rfl rfl) h3
 obtain ⟨at_, rfl, rfl, rfl, _⟩ := open_int Tryz.underlying3 (hval 4 3 v4 rfl rfl) h4
 obtain ⟨known, rfl, rfl, rfl, _⟩ := open_int Tryz.underlying3 (hval 5 3 v5 rfl rfl) h5
 obtain ⟨which, rfl, rfl, rfl, wwh⟩ := open_int Tryz.underlying5 (hval 6 5 v6 rfl rfl) h6
 obtain ⟨other, rfl, rfl, rfl, _⟩ := Go.ChangeMaps.open_string Tryz.underlying9 (hval 7 9 v7 rfl rfl) h7
 obtain ⟨sA, sC, slots, rfl, hs, hsb⟩ := open_slots (hval 8 28 v8 rfl rfl) h8
 obtain ⟨which, rfl, hwh⟩ := u8_nat wwh
 rw [MakeChecks.laidMetH_plain _ _ _ (by kernel_rfl)] at hL
 have hE := env_of_laid hL
 simp only [List.append_nil] at hW' hAk
 refine (law3 g lA lC l lang wA wC words at_ known which other sA sC slots W hG hgs hl hlo hw hE hs ⟨by omega, by omega⟩ hsb).mono fun e W' ⟨he, hb⟩ => ?_
 subst he
 exact ⟨_, rfl, post_law (tb := 4) Tryz.laidOut hW' hAk rfl rfl rfl Tryz.underlying4 (by rw [Tryz.params3]; decide +kernel) hb⟩

theorem topProvenance_holds : Rows.TopProvenanceSaid :=
 OpenClaim.holds_of_wide 3 Tryz.f3 rfl rfl rfl rfl rfl rfl rfl ⟨rfl, rfl, rfl, rfl, rfl⟩ rfl rfl rfl rfl rfl (by kernel_rfl) Tryz.func3 (by kernel_rfl)
  (of_decide_eq_true (by kernel_rfl)) (by unfold Func.isWrapper; first | (rw [if_pos (by decide +kernel)]; kernel_rfl) | (rw [if_neg (by decide +kernel)]; exact ⟨rfl, rfl⟩))
  (fun os started H enc _ => topProvenance_lifted os started H enc)
end Go.Proofs.YtkfdafeonhnloaaGreatDoor

/-
  A range over a function, by a contract of the iterator's that names the very list that it yields ('Iter'), and one law for the caller ('wpIn_range').
 'O': the blocks that the iterator has laid since it was called (the loop's own record among them): the caller's rounds leave them be; the iterator turns no other.
  A region that draws its order, in a fence that lets every function in, whose first n operations only read and whose others have one order: it is walked in the order of the text.
  Small words over any program: a fact kept from the walk; a slice that reads as a list; an owned row that reads as a list; marks of loops over functions among the deferred calls.
  A region that draws its order, whose operations read cells that are older than the region and whose callees make new memory and hand back one value: one walk, in the order of the text.
  A block of cells of a world, followed through calls that keep what lay before them.
  One element appended to a row of the call's own, at the operation; the last element of such a row; an empty row.
  A whole slice appended to a row of the call's own; a law at a step of a region that draws; a region cut off from what follows.
  From a law's walk to its row: arguments opened to lists; what stands behind the call where nothing that lay before it has turned.
  Five parameters; a byte.
  Slices of numbers and slices of slices of numbers, as lists; the laws' arguments.
  A range over a function with one loop variable whose assignment sets one slot.
  A range over a function, its list the image of a list; any parameters, any assignment.
  Boxes of one cell that are stored to, one after another.
  append by a law, in a fence.
  A scope without a jump to a label, in a fence; a loop in whose rounds marks are laid.
  make with a size that is a variable.
  An element of an own row: its cells, and one of them turned.
  Layers 28 to 30, plainly: grammars, items, derivations, and the translation that a derivation gives.
-/
import Derived.RangeFuncNested
import Derived.RangeFuncBound
import Derived.RangeFuncCalls
import Derived.RangeFuncLeaves
import Derived.Below
import Derived.StillTailTactics
import Derived.OrdersIn
import Derived.TacticsIn
import Derived.OwnWalkIn
import Derived.WalkKit
import Derived.WalkSpells
import Derived.WalkLawsBesides
import Derived.Maps.AppendAt
import Derived.BigQuiet
import Derived.Deep.RegionLaw
import Derived.ProofKit
import Derived.Deep.Slices
import Derived.Deep.Fields
import Derived.Lib.SmallJoins
import Derived.WalkMore
namespace Go.Mine
open Go.RowKit

structure IStep (O O' : Nat → Prop) (W W' : World) : Prop where
 os : W'.os = W.os
 tape : W'.tape = W.tape
 output : W'.output = W.output
 size : W.heap.size ≤ W'.heap.size
 keep : ∀ b, b < W.heap.size → ¬ O b → W'.heap[b]? = W.heap[b]?
 owns : ∀ b, O' b ↔ (O b ∨ (W.heap.size ≤ b ∧ b < W'.heap.size))

def Stable {β : Type} (J : β → (Nat → Prop) → World → Prop) : Prop := ∀ s O O' W W', J s O W → IStep O O' W W' → J s O' W'

structure Kept (R : Nat → Prop) (W W' : World) : Prop where
 os : W'.os = W.os
 tape : W'.tape = W.tape
 output : W'.output = W.output
 size : W.heap.size ≤ W'.heap.size
 keep : ∀ b, b < W.heap.size → R b → W'.heap[b]? = W.heap[b]?

def Iter (P : Program) (g : Nat) (lb : Array Value) (xs : List (Array Value)) (R : Nat → Prop) (w0 : World) : Prop :=
 ∀ (n l : Nat) (J : Nat → (Nat → Prop) → World → Prop) (Jx : Unit → (Nat → Prop) → World → Prop) (W : World),
  w0.heap.size ≤ W.heap.size → (∀ b, R b → b < w0.heap.size ∧ W.heap[b]? = w0.heap[b]?) → Stable J → Stable Jx →
  (∀ k x O W1, xs[k]? = some x → J k O W1 → (∀ b, O b → W.heap.size ≤ b ∧ b < W1.heap.size) → W.heap.size ≤ W1.heap.size →
   YieldAt Fence.wide (n - 1) P l x W1 fun e W' => Kept (fun b => O b ∨ R b) W1 W' ∧
    ((e = .returned (.bool true) ∧ J (k + 1) O W') ∨ (e = .returned (.bool false) ∧ Jx () O W'))) →
  J 0 (fun _ => False) W →
  CallsIn Fence.wide n P g (#[.func (.yield l) #[] #[]] ++ lb) W fun e W' => (∃ v, e = .returned v) ∧
   ∃ O, (∀ b, O b → W.heap.size ≤ b ∧ b < W'.heap.size) ∧ W.heap.size ≤ W'.heap.size ∧ (J xs.length O W' ∨ Jx () O W')

theorem IStep.refl (O : Nat → Prop) (W : World) : IStep O O W W := ⟨rfl, rfl, rfl, Nat.le_refl _, fun _ _ _ => rfl, fun b => by constructor; exact .inl; rintro (h | h); exact h; omega⟩
theorem IStep.putObj {O : Nat → Prop} (W : World) (r : Nat) (o : Obj) (h : O r) : IStep O O W (W.putObj r o) :=
 ⟨rfl, rfl, rfl, by simp, fun b _ hb => World.putObj_heap_other (fun e => hb (e ▸ h)), fun b => by simp only [World.putObj_size]; constructor; exact .inl; rintro (h | h); exact h; omega⟩
theorem IStep.trans {O O' O'' : Nat → Prop} {A B C : World} (h : IStep O O' A B) (k : IStep O' O'' B C) : IStep O O'' A C :=
 ⟨k.os.trans h.os, k.tape.trans h.tape, k.output.trans h.output, Nat.le_trans h.size k.size, fun b hb hO => (k.keep b (Nat.lt_of_lt_of_le hb h.size) (fun hO' => by
   rcases (h.owns b).1 hO' with h1 | h1
   ·exact hO h1
   ·omega)).trans (h.keep b hb hO), fun b => by
  have h1 := h.size; have h2 := k.size
  rw [k.owns, h.owns]
  constructor
  ·rintro ((h | h) | h)
   ·exact .inl h
   ·exact .inr (by omega)
   ·exact .inr (by omega)
  ·rintro (h | h)
   ·exact .inl (.inl h)
   ·by_cases hb : b < B.heap.size
    ·exact .inl (.inr (by omega))
    ·exact .inr (by omega)⟩
theorem Kept.refl (R : Nat → Prop) (W : World) : Kept R W W := ⟨rfl, rfl, rfl, Nat.le_refl _, fun _ _ _ => rfl⟩
theorem Kept.trans {R : Nat → Prop} {A B C : World} (h : Kept R A B) (k : Kept R B C) : Kept R A C :=
 ⟨k.os.trans h.os, k.tape.trans h.tape, k.output.trans h.output, Nat.le_trans h.size k.size, fun b hb hR => (k.keep b (Nat.lt_of_lt_of_le hb h.size) hR).trans (h.keep b hb hR)⟩
theorem Kept.of_below {R : Nat → Prop} {W W' : World} (h : Below W.heap.size W W') : Kept R W W' := ⟨h.os, h.tape, h.output, h.size, fun b hb _ => h.block b hb⟩
theorem Kept.alloc {R : Nat → Prop} {A W : World} (h : Kept R A W) (o : Obj) : Kept R A (W.alloc o) := h.trans ⟨rfl, rfl, rfl, by simp, fun b hb _ => Below.heap_alloc W o b hb⟩
theorem Kept.drew {R : Nat → Prop} {A W : World} (h : Kept R A W) : Kept R A W.drew := ⟨h.os, h.tape, h.output, h.size, h.keep⟩
theorem Kept.setCell {R : Nat → Prop} {A W : World} (h : Kept R A W) {a : Addr} (v : Value) (ha : ¬ R a.block) : Kept R A (W.setCell a v) :=
 h.trans ⟨rfl, rfl, rfl, by simp [World.setCell], fun b _ hR => Below.heap_setCell _ _ _ _ (fun e => ha (e ▸ hR))⟩
theorem Kept.grown {R : Nat → Prop} {A W W' : World} {row : Option Nat} (h : Kept R A W) (hg : W.grownBy W' row) (hr : ∀ k, row = some k → ¬ R k) : Kept R A W' :=
 h.trans ⟨hg.os, hg.tape, hg.output, hg.size, fun b hb hR => hg.block b hb (fun e => hr b e.symm hR)⟩
theorem Kept.mono {R R' : Nat → Prop} {A W : World} (h : Kept R A W) (hr : ∀ b, R' b → R b) : Kept R' A W := ⟨h.os, h.tape, h.output, h.size, fun b hb hR => h.keep b hb (hr b hR)⟩

def rpost (I : Nat → (Nat → Prop) → World → Prop) (Ix : Code → (Nat → Prop) → World → Prop) (k : Nat) (O R : Nat → Prop) (W : World) : Exit → Act → World → Prop
 | .normal, _, W' => Kept (fun b => O b ∨ R b) W W' ∧ I (k + 1) O W'
 | .ret, _, W' => Kept (fun b => O b ∨ R b) W W' ∧ Ix .ret O W'
 | .exit id, _, W' => Kept (fun b => O b ∨ R b) W W' ∧ Ix (.exit id) O W'
 | .goto t, _, W' => Kept (fun b => O b ∨ R b) W W' ∧ Ix (.goto t) O W'
 | .panic _, _, _ => False
 | .outgrown, _, _ => False

theorem wpIn_range_gen {P : Program} {n : Nat} {g : Operand} {ps : Array Tmp} {assign body : Code} {Q : Exit → Act → World → Prop} {a : Act} {w : World}
  {gf : Nat} {lb : Array Value} (hg : a.eval g = .func (.func gf) #[] lb) (eg : ∀ args w, (callFunc gf args).run P w = .ok (.enter gf args) w)
  {xs : List (Array Value)} {R : Nat → Prop} {w0 : World} (hit : Iter P gf lb xs R w0) (hw0 : w0.heap.size ≤ w.heap.size) (hR : ∀ b, R b → b < w0.heap.size ∧ w.heap[b]? = w0.heap[b]?)
  (hps : ∀ x, x ∈ xs → x.size = ps.size)
  (I : Nat → (Nat → Prop) → World → Prop) (Ix : Code → (Nat → Prop) → World → Prop) (hI : Stable I) (hIx : Stable Ix) (h0 : I 0 (fun _ => False) w)
  (hbody : ∀ (l k : Nat) (x : Array Value) (O : Nat → Prop) (W : World), xs[k]? = some x → I k O W → (∀ b, O b → w.heap.size ≤ b ∧ b < W.heap.size) → w.heap.size ≤ W.heap.size →
   assign.wpIn (Fence.wide.inRound l) (n - 1 - 1) P (Exit.then (fun a1 W1 => Kept (fun b => O b ∨ R b) W W1 ∧ ∀ W2, IStep O O W1 W2 → W2.heap.size = W1.heap.size →
     body.wpIn (Fence.wide.inRound l) (n - 1 - 1) P (rpost I Ix k O R W2) a1 W2) (fun _ _ _ => False))
    { tmps := (ps.zip x).foldl (fun t (p, v) => t.setIfInBounds p v) a.tmps, defers := [] } W)
  (hdone : ∀ (O : Nat → Prop) (W : World), I xs.length O W → (∀ b, O b → w.heap.size ≤ b ∧ b < W.heap.size) → W.heap[w.heap.size]? = some (.deferred (some [])) → O w.heap.size → w.heap.size ≤ W.heap.size →
   Q .normal { a with defers := { target := .collected w.heap.size, args := #[] } :: a.defers } W)
  (hstop : ∀ (c : Code) (O : Nat → Prop) (W : World), Ix c O W → (∀ b, O b → w.heap.size ≤ b ∧ b < W.heap.size) → W.heap[w.heap.size]? = some (.deferred (some [])) → O w.heap.size → w.heap.size ≤ W.heap.size →
   c.wpIn Fence.wide n P Q { a with defers := { target := .collected w.heap.size, args := #[] } :: a.defers } W) :
  (Code.rangeFunc g ps assign body).wpIn Fence.wide n P Q a w := by
 refine wpIn_rangeFunc ?_
 intro fn hfn
 obtain ⟨rec, hrec⟩ : ∃ rec : LoopState → Option Code → Loop, rec = fun st pe => { state := st, pending := pe, fn, tmps := a.tmps, params := ps, assign, body, defers := w.heap.size } := ⟨_, rfl⟩
 obtain ⟨W1, hW1⟩ : ∃ W1, (w.alloc (.deferred (some []))).alloc (.loop (rec .ready none)) = W1 := ⟨_, rfl⟩
 have hS1 : W1.heap.size = w.heap.size + 2 := by rw [← hW1]; simp
 have hL1 : W1.heap[w.heap.size + 1]? = some (.loop (rec .ready none)) := by
  rw [← hW1]; have := World.alloc_heap_new (w.alloc (.deferred (some []))) (.loop (rec .ready none)); rwa [World.size_alloc] at this
 have hK1 : W1.heap[w.heap.size]? = some (.deferred (some [])) := by
  rw [← hW1]; exact (Below.heap_alloc _ _ _ (by simp)).trans (World.alloc_heap_new w _)
 have hb1 : Below w.heap.size w W1 := by
  rw [← hW1]; exact ((Below.refl _ w).alloc (Nat.le_refl _) _).alloc (by simp) _
 let D := w.heap.size
 let E : (Nat → Prop) → Nat → Prop := fun O b => O b ∨ (b = w.heap.size ∨ b = w.heap.size + 1)
 have hI1 : I 0 (E fun _ => False) W1 := hI _ _ _ _ _ h0 ⟨hb1.os, hb1.tape, hb1.output, hb1.size, fun b hb _ => hb1.block b hb, fun b => by
  show (False ∨ _) ↔ _
  rw [hS1]; constructor
  ·rintro (h | h); exact h.elim; exact .inr (by omega)
  ·rintro (h | h); exact h.elim; exact .inr (by omega)⟩
 -- a step of the iterator's is one of the caller's
 have lift : ∀ {O O' : Nat → Prop} {A B : World}, IStep O O' A B → IStep (E O) (E O') A B := fun {O O' A B} h =>
  ⟨h.os, h.tape, h.output, h.size, fun b hb hO => h.keep b hb (fun h' => hO (.inl h')), fun b => by
   show (O' b ∨ _) ↔ ((O b ∨ _) ∨ _)
   rw [h.owns]
   constructor
   ·rintro ((h | h) | h); exact .inl (.inl h); exact .inr h; exact .inl (.inr h)
   ·rintro ((h | h) | h); exact .inl (.inl h); exact .inr h; exact .inl (.inr h)⟩
 have putl : ∀ {O : Nat → Prop} {A : World} (o : Obj), IStep (E O) (E O) A (A.putObj (w.heap.size + 1) o) := fun o => IStep.putObj _ _ o (.inr (.inr rfl))
 refine ⟨w.heap.size + 1, [{ target := .collected w.heap.size, args := #[] }], W1, { target := .fn (.func gf) lb, args := #[.func (.yield (w.heap.size + 1)) #[] #[]] }, W1, gf,
  #[.func (.yield (w.heap.size + 1)) #[] #[]] ++ lb, W1, ?_, ?_, ?_, ?_, fun h => by simp [Fence.wide] at h, ?_⟩
 ·rw [← hW1, hrec]; exact run_enterLoop_outer _ _ _ _ _
 ·simp only [resolve, hg]
  simp [go_sem]
 ·intro f' _; trivial
 ·simp [invoke, go_sem, eg]
 ·refine (hit (n - 1) (w.heap.size + 1)
   (fun k O W => I k (E O) W ∧ W.heap[w.heap.size + 1]? = some (.loop (rec .ready none)) ∧ W.heap[w.heap.size]? = some (.deferred (some [])) ∧ (∀ b, O b → w.heap.size + 2 ≤ b) ∧ w.heap.size + 2 ≤ W.heap.size)
   (fun _ O W => ∃ c, Ix c (E O) W ∧ W.heap[w.heap.size + 1]? = some (.loop (rec .done (some c))) ∧ W.heap[w.heap.size]? = some (.deferred (some [])) ∧ (∀ b, O b → w.heap.size + 2 ≤ b) ∧ w.heap.size + 2 ≤ W.heap.size)
   W1 (Nat.le_trans hw0 hb1.size) (fun b hb => ⟨(hR b hb).1, (hb1.block b (Nat.lt_of_lt_of_le (hR b hb).1 hw0)).trans (hR b hb).2⟩) ?_ ?_ ?_ ?_).mono ?_
  ·rintro k O O' A B ⟨hi, hl, hk, hO, hz⟩ st
   refine ⟨hI _ _ _ _ _ hi (lift st), (st.keep _ (by omega) (fun h => by have := hO _ h; omega)).trans hl, (st.keep _ (by omega) (fun h => by have := hO _ h; omega)).trans hk, fun b hb => ?_, Nat.le_trans hz st.size⟩
   rcases (st.owns b).1 hb with h | h
   ·exact hO b h
   ·omega
  ·rintro u O O' A B ⟨c, hi, hl, hk, hO, hz⟩ st
   refine ⟨c, hIx _ _ _ _ _ hi (lift st), (st.keep _ (by omega) (fun h => by have := hO _ h; omega)).trans hl, (st.keep _ (by omega) (fun h => by have := hO _ h; omega)).trans hk, fun b hb => ?_, Nat.le_trans hz st.size⟩
   rcases (st.owns b).1 hb with h | h
   ·exact hO b h
   ·omega
  ·
   rintro k x O W hx ⟨hi, hl, hk, hO, hz⟩ hOs hWs
   have hlt : w.heap.size + 1 < W.heap.size := by omega
   have hy := run_yield (P := P) (args := x) hl (by rw [hrec]; exact hps x (List.mem_of_getElem? hx))
   rw [hrec] at hy
   have hEO : ∀ b, E O b → w.heap.size ≤ b ∧ b < W.heap.size := by
    rintro b (h | h | h)
    ·have := hOs b h; omega
    ·omega
    ·omega
   refine ⟨fn, _, assign, body, hy, roundIn_of_wpIn hfn (wpIn_mono (hbody (w.heap.size + 1) k x (E O) W hx hi hEO (by omega)) ?_)⟩
   rintro e a1 Wa hp
   cases e with
   | normal =>
    obtain ⟨hka, hbd⟩ := hp
    have hla : Wa.heap[w.heap.size + 1]? = some (.loop (rec .ready none)) := (hka.keep _ (by omega) (.inl (.inr (.inr rfl)))).trans hl
    have hda : Wa.heap[w.heap.size]? = some (.deferred (some [])) := (hka.keep _ (by omega) (.inl (.inr (.inl rfl)))).trans hk
    have hza := hka.size
    refine ⟨_, run_beginRound hla (by rw [hrec]), ?_⟩
    obtain ⟨W2, hW2⟩ : ∃ W2, Wa.putObj (w.heap.size + 1) (.loop { rec .ready none with state := .busy }) = W2 := ⟨_, rfl⟩
    have st2 : IStep (E O) (E O) Wa W2 := by rw [← hW2]; exact putl _
    have hl2 : W2.heap[w.heap.size + 1]? = some (.loop { rec .ready none with state := .busy }) := by rw [← hW2]; exact World.putObj_heap_same (by omega)
    have hk2 : W2.heap[w.heap.size]? = some (.deferred (some [])) := by rw [← hW2]; exact (World.putObj_heap_other (by omega)).trans hda
    have hz2 : W2.heap.size = Wa.heap.size := by rw [← hW2]; simp
    have hbody2 := hbd W2 st2 hz2
    rw [hW2]
    refine wpIn_mono hbody2 ?_
    -- from the record's state when the body is left to the round's end
    have fin : ∀ (jump : Option Code) (W3 : World), Kept (fun b => E O b ∨ R b) W2 W3 →
      (Instr.endRound (w.heap.size + 1) jump).run P W3 = .ok (.bool jump.isNone) (W3.putObj (w.heap.size + 1) (.loop (rec (if jump.isNone then .ready else .done) jump))) ∧
      (W3.putObj (w.heap.size + 1) (.loop (rec (if jump.isNone then .ready else .done) jump))).heap[w.heap.size + 1]? = some (.loop (rec (if jump.isNone then .ready else .done) jump)) ∧
      (W3.putObj (w.heap.size + 1) (.loop (rec (if jump.isNone then .ready else .done) jump))).heap[w.heap.size]? = some (.deferred (some [])) ∧
      Kept (fun b => O b ∨ R b) W (W3.putObj (w.heap.size + 1) (.loop (rec (if jump.isNone then .ready else .done) jump))) ∧ w.heap.size + 2 ≤ W3.heap.size := fun jump W3 hk3 => by
     have hl3 : W3.heap[w.heap.size + 1]? = some (.loop { rec .ready none with state := .busy }) := (hk3.keep _ (by omega) (.inl (.inr (.inr rfl)))).trans hl2
     have hd3 : W3.heap[w.heap.size]? = some (.deferred (some [])) := (hk3.keep _ (by omega) (.inl (.inr (.inl rfl)))).trans hk2
     have hz3 := hk3.size
     have hr := run_endRound (P := P) jump hl3
     rw [hrec] at hr ⊢
     refine ⟨hr, World.putObj_heap_same (by omega), (World.putObj_heap_other (by omega)).trans hd3, ?_, by omega⟩
     have hRl : ∀ b, O b ∨ R b → b ≠ w.heap.size + 1 := by
      rintro b (h | h) e
      ·have := hO b h; omega
      ·have := (hR b h).1; omega
     refine ⟨hk3.os.trans (st2.os.trans hka.os), hk3.tape.trans (st2.tape.trans hka.tape), hk3.output.trans (st2.output.trans hka.output), by simp; omega, fun b hb hRb => ?_⟩
     have hne := hRl b hRb
     have hRb' : E O b ∨ R b := by rcases hRb with h | h; exact .inl (.inl h); exact .inr h
     refine (World.putObj_heap_other hne).trans ((hk3.keep b (by omega) hRb').trans ?_)
     refine Eq.trans ?_ (hka.keep b hb hRb')
     rw [← hW2]; exact World.putObj_heap_other hne
    rintro e2 a3 W3 hp
    cases e2 with
    | normal =>
     obtain ⟨hk3, hi3⟩ := hp
     obtain ⟨hr, hl4, hk4, hK, hz3⟩ := fin none W3 hk3
     exact ⟨_, _, hr, hK, .inl ⟨rfl, hI _ _ _ _ _ hi3 (putl _), hl4, hk4, hO, by simp; omega⟩⟩
    | ret =>
     obtain ⟨hk3, hi3⟩ := hp
     obtain ⟨hr, hl4, hk4, hK, hz3⟩ := fin (some .ret) W3 hk3
     exact ⟨_, _, hr, hK, .inr ⟨rfl, .ret, hIx _ _ _ _ _ hi3 (putl _), hl4, hk4, hO, by simp; omega⟩⟩
    | exit id =>
     obtain ⟨hk3, hi3⟩ := hp
     obtain ⟨hr, hl4, hk4, hK, hz3⟩ := fin (some (.exit id)) W3 hk3
     exact ⟨_, _, hr, hK, .inr ⟨rfl, .exit id, hIx _ _ _ _ _ hi3 (putl _), hl4, hk4, hO, by simp; omega⟩⟩
    | goto t =>
     obtain ⟨hk3, hi3⟩ := hp
     obtain ⟨hr, hl4, hk4, hK, hz3⟩ := fin (some (.goto t)) W3 hk3
     exact ⟨_, _, hr, hK, .inr ⟨rfl, .goto t, hIx _ _ _ _ _ hi3 (putl _), hl4, hk4, hO, by simp; omega⟩⟩
    | panic ch => exact hp.elim
    | outgrown => exact hp.elim
   | exit id => exact hp.elim
   | goto t => exact hp.elim
   | ret => exact hp.elim
   | panic ch => exact hp.elim
   | outgrown => exact hp.elim
  ·exact ⟨hI1, hL1, hK1, fun _ h => h.elim, by omega⟩
  ·
   rintro e W2 ⟨⟨v, rfl⟩, O, hOs, hz, (⟨hi, hl, hk, hO, hz2⟩ | ⟨c, hi, hl, hk, hO, hz2⟩)⟩
   ·have hEO : ∀ b, E O b → w.heap.size ≤ b ∧ b < (W2.putObj (w.heap.size + 1) (.loop { rec .ready none with state := .exhausted })).heap.size := by
     rintro b (h | h | h) <;> simp only [World.putObj_size]
     ·have := hOs b h; omega
     ·omega
     ·omega
    exact ⟨none, _, by have := run_endLoop (P := P) hl (by rw [hrec]; simp); rw [hrec] at this; exact this,
     by have := hdone (E O) _ (hI _ _ _ _ _ hi (putl _)) hEO ((World.putObj_heap_other (by omega)).trans hk) (.inr (.inl rfl)) (by simp; omega); rw [hrec] at this; exact this⟩
   ·have hEO : ∀ b, E O b → w.heap.size ≤ b ∧ b < (W2.putObj (w.heap.size + 1) (.loop { rec .done (some c) with state := .exhausted })).heap.size := by
     rintro b (h | h | h) <;> simp only [World.putObj_size]
     ·have := hOs b h; omega
     ·omega
     ·omega
    exact ⟨some c, _, by have := run_endLoop (P := P) hl (by rw [hrec]; simp); rw [hrec] at this; exact this,
     by have := hstop c (E O) _ (hIx _ _ _ _ _ hi (putl _)) hEO ((World.putObj_heap_other (by omega)).trans hk) (.inr (.inl rfl)) (by simp; omega); rw [hrec] at this; exact this⟩

theorem wpIn_range {P : Program} {n : Nat} {g : Operand} {ps : Array Tmp} {assign body : Code} {Q : Exit → Act → World → Prop} {a : Act} {w : World}
  {gf : Nat} {lb : Array Value} (hg : a.eval g = .func (.func gf) #[] lb) (eg : ∀ args w, (callFunc gf args).run P w = .ok (.enter gf args) w)
  {xs : List (Array Value)} {R : Nat → Prop} {w0 : World} (hit : Iter P gf lb xs R w0) (hw0 : w0.heap.size ≤ w.heap.size) (hR : ∀ b, R b → b < w0.heap.size ∧ w.heap[b]? = w0.heap[b]?)
  (hps : ∀ x, x ∈ xs → x.size = ps.size)
  (I : Nat → (Nat → Prop) → World → Prop) (Ix : Code → (Nat → Prop) → World → Prop) (hI : Stable I) (hIx : Stable Ix) (h0 : I 0 (fun _ => False) w) (a₁ : Array Value → Act)
  (hassign : ∀ (l : Nat) (x : Array Value) (W : World) (K : Act → World → Prop), x ∈ xs → K (a₁ x) W →
   assign.wpIn (Fence.wide.inRound l) (n - 1 - 1) P (Exit.then K (fun _ _ _ => False)) { tmps := (ps.zip x).foldl (fun t (p, v) => t.setIfInBounds p v) a.tmps, defers := [] } W)
  (hbody : ∀ (l k : Nat) (x : Array Value) (O : Nat → Prop) (W : World), xs[k]? = some x → I k O W → (∀ b, O b → w.heap.size ≤ b ∧ b < W.heap.size) → w.heap.size ≤ W.heap.size →
   body.wpIn (Fence.wide.inRound l) (n - 1 - 1) P (rpost I Ix k O R W) (a₁ x) W)
  (hdone : ∀ (O : Nat → Prop) (W : World), I xs.length O W → (∀ b, O b → w.heap.size ≤ b ∧ b < W.heap.size) → W.heap[w.heap.size]? = some (.deferred (some [])) → O w.heap.size → w.heap.size ≤ W.heap.size →
   Q .normal { a with defers := { target := .collected w.heap.size, args := #[] } :: a.defers } W)
  (hstop : ∀ (c : Code) (O : Nat → Prop) (W : World), Ix c O W → (∀ b, O b → w.heap.size ≤ b ∧ b < W.heap.size) → W.heap[w.heap.size]? = some (.deferred (some [])) → O w.heap.size → w.heap.size ≤ W.heap.size →
   c.wpIn Fence.wide n P Q { a with defers := { target := .collected w.heap.size, args := #[] } :: a.defers } W) :
  (Code.rangeFunc g ps assign body).wpIn Fence.wide n P Q a w :=
 wpIn_range_gen hg eg hit hw0 hR hps I Ix hI hIx h0
  (fun l k x O W hx hi hO hz => hassign l x W _ (List.mem_of_getElem? hx) ⟨Kept.refl _ _, fun W2 st hz2 => hbody l k x O W2 hx (hI _ _ _ _ _ hi st) (fun b hb => by rw [hz2]; exact hO b hb) (by omega)⟩) hdone hstop

end Go.Mine
namespace Go.Mine
section
variable {ro : Option Nat} {m : Nat} {P : Program} {ops : Array Oper} {md : Region.Mode} {w : World}

abbrev wideR (ro : Option Nat) : Fence := { Fence.wide with round := ro }
@[go_sem] theorem wide_depth : Fence.wide.depth = none := rfl
@[go_sem] theorem wide_fn (f : FuncId) : Fence.wide.fn f = True := rfl
theorem callsIn_wideR {m : Nat} {P : Program} {f : FuncId} {args : Array Value} {w : World} {R : Ending → World → Prop} (h : Calls P f args w R) : CallsIn (wideR ro) m P f args w R :=
 (callsIn_wide (n := m)).2 h

def noDefer (ops : Array Oper) : Bool := ops.all fun o => match o.op with | .defer _ => false | _ => true
theorem noDefer_spec (h : noDefer ops = true) {i : Nat} {o : Oper} (hi : ops[i]? = some o) : ∀ c, o.op ≠ .defer c := by
 intro c hc
 obtain ⟨hlt, rfl⟩ := Array.getElem?_eq_some_iff.1 hi
 have := (Array.all_eq_true.1 h) i hlt
 rw [hc] at this
 cases this

theorem wpIn_of_still {o : Oper} {a : Act} {K : Act → Prop} {K' : Act → World → Prop} {Q' : Exit → Act → World → Prop} (hnd : ∀ c, o.op ≠ .defer c) (h : ∀ a, K a → K' a w) (hh : o.still P a w K) :
  o.wpIn (wideR ro) m P a w K' Q' := by
 refine ⟨fun f _ => trivial, ?_⟩
 rw [Oper.semAt_eq _ _ _ hnd]
 unfold Oper.still at hh
 generalize (execOp a.eval o).run P w = r at *
 cases r with
 | ok n w' =>
  cases n <;> simp only [Oper.stillUpon] at hh <;> simp only [Oper.uponIn]
  case enter f args =>
   obtain ⟨rfl, v, hc, hn⟩ := hh
   refine ⟨fun h => (by cases h), callsIn_wideR (hc.mono fun e w'' ⟨he, hw⟩ => ?_)⟩
   subst he; subst hw; exact h _ hn
  all_goals (obtain ⟨rfl, h2⟩ := hh; exact h _ h2)
 | halt x w' => simp only [Oper.stillUpon] at hh

theorem wpOpIn_of_stOp (hnd : noDefer ops = true) {i : Nat} {a : Act} {K : Act → Prop} {K' : Act → World → Prop} {Q' : Exit → Act → World → Prop} (h : ∀ a, K a → K' a w) (hh : stOp P ops w i K a) : wpOpIn (wideR ro) m P ops Q' i K' a w := by
 unfold stOp at hh
 unfold wpOpIn
 split
 ·rename_i ho; simp only [ho] at hh; exact h _ hh
 ·rename_i o ho
  simp only [ho] at hh
  split
  ·rename_i hw; simp only [hw, if_true] at hh; exact wpIn_of_still (noDefer_spec hnd ho) h hh
  ·rename_i hw; simp only [hw] at hh; exact ⟨fun f _ => trivial, h _ hh⟩

theorem wpAnyIn_of_head (hnd : noDefer ops = true) {n g : Nat} {L : Array Bool → Act → Prop} {Q' : Exit → Act → World → Prop} (hL : ∀ listed a, L listed a → wpAnyIn (wideR ro) m P md ops Q' g listed a w) :
  ∀ (f : Nat) (listed : Array Bool) (a : Act), wpAnyL P md ops w n L f listed a → wpAnyIn (wideR ro) m P md ops Q' (f + g) listed a w
 | 0, listed, a, h => by rw [Nat.zero_add]; exact hL _ _ h
 | f + 1, listed, a, h => by
  rw [show f + 1 + g = (f + g) + 1 by omega]
  exact ⟨fun h0 => absurd h0 h.1, fun i hi => wpOpIn_of_stOp hnd (fun a' h' => wpAnyIn_of_head hnd hL f _ a' h') (h.2 i hi).2⟩

theorem wpAnyIn_of_seq {Q' : Exit → Act → World → Prop} : ∀ (l : List Oper) (k : Nat) (listed : Array Bool) (a : Act) (w : World), (∀ j, l[j]? = ops[k + j]?) →
  Region.seqB md ops l.length k listed = true → wpListIn (wideR ro) m P ops Q' l a w → wpAnyIn (wideR ro) m P md ops Q' l.length listed a w
 | [], _, _, _, _, _, hB, h => ⟨by simpa [Region.seqB] using hB, h⟩
 | o :: l, k, listed, a, w, hl, hB, h => by
  have h0 : ops[k]? = some o := by simpa using (hl 0).symm
  simp only [List.length_cons, Region.seqB, Bool.and_eq_true, decide_eq_true_eq] at hB
  refine ⟨fun h1 => (by rw [hB.1] at h1; cases h1), fun i hi => ?_⟩
  rw [hB.1] at hi
  have hik : i = k := by simpa using hi
  subst hik
  have hw : wpOpIn (wideR ro) m P ops Q' i (wpListIn (wideR ro) m P ops Q' l) a w := by unfold wpOpIn; simp only [h0]; exact h
  exact wpOpIn_mono (fun a' w' h' => wpAnyIn_of_seq l (i + 1) _ a' w' (fun j => by have := hl (j + 1); simpa [Nat.add_assoc, Nat.add_comm 1 j] using this) hB.2 h') hw

theorem wpIn_region_still_tail {id : Nat} {Q : Exit → Act → World → Prop} {a : Act} {w : World} {l : List Oper} (n : Nat) (hm : P.follows .mixedOrders = true) (hB : (Region.lexTailB .any l.toArray n && noDefer l.toArray) = true)
  (h : wpStill P l.toArray w.drew (fun a' => wpListIn (wideR ro) m P l.toArray Q (l.drop n) a' w.drew) (l.take n) a) : (Code.region id l.toArray true).wpIn (wideR ro) m P Q a w := by
 simp only [Bool.and_eq_true] at hB
 obtain ⟨hB, hnd⟩ := hB
 simp only [Region.lexTailB, Bool.and_eq_true, decide_eq_true_eq] at hB
 obtain ⟨⟨⟨⟨hsel, hn⟩, hs⟩, hc⟩, hlex⟩ := hB
 have hn' : n < l.length := by simpa using hn
 have htl : (l.take n).length = n := by simp; omega
 have hdl : (l.drop n).length = l.toArray.size - n := by simp
 have inv0 : HeadInv .any l.toArray n (Array.replicate l.toArray.size false) :=
  ⟨by simp, fun j oj _ hl => (by rw [getD_replicate_false] at hl; cases hl), fun t _ ht => getD_in (by simpa using ht) (getD_replicate_false _ _)⟩
 have H := wpAnyL_lex (md := .any) (g := l.toArray.size - n) hsel hs hc hn (l.take n) 0 _ a (fun j hj => by
  have hj' : j < n := by rw [htl] at hj; exact hj
  simp [hj']) (by simpa using htl) inv0 (by rw [htl]; exact hlex) h
 refine wpIn_region_any hm ?_
 have := wpAnyIn_of_head (ro := ro) (m := m) hnd (Q' := Q) (g := l.toArray.size - n) (fun listed a' hL => by
  have := wpAnyIn_of_seq (ro := ro) (m := m) (md := .any) (Q' := Q) (l.drop n) n listed a' w.drew (fun j => by simp [List.getElem?_drop]) (by rw [hdl]; exact hL.1) hL.2
  rwa [hdl] at this) _ _ _ H
 rw [htl, show n + (l.toArray.size - n) = l.toArray.size by omega] at this
 exact this

theorem wpAnyIn_of_still (hnd : noDefer ops = true) {Q : Act → Prop} {Q' : Exit → Act → World → Prop} (hQ : ∀ a, Q a → Q' .normal a w) : ∀ (fuel : Nat) (listed : Array Bool) (a : Act),
  wpAnyS P md ops w Q fuel listed a → wpAnyIn (wideR ro) m P md ops Q' fuel listed a w
 | 0, _, _, h => ⟨h.1, hQ _ h.2⟩
 | fuel + 1, _, _, h => ⟨fun h0 => hQ _ (h.1 h0), fun i hi => wpOpIn_of_stOp hnd (fun a' => wpAnyIn_of_still hnd hQ fuel _ a') (h.2 i hi)⟩

theorem wpIn_region_still_lit {id : Nat} {Q : Exit → Act → World → Prop} {a : Act} {w : World} {l : List Oper} (hm : P.follows .mixedOrders = true) (hB : (Region.lexB .any l.toArray && noDefer l.toArray) = true)
  (h : wpStill P l.toArray w.drew (fun a' => Q .normal a' w.drew) l a) : (Code.region id l.toArray true).wpIn (wideR ro) m P Q a w := by
 simp only [Bool.and_eq_true] at hB
 obtain ⟨hB, hnd⟩ := hB
 simp only [Region.lexB, Bool.and_eq_true] at hB
 refine wpIn_region_any hm (wpAnyIn_of_still hnd (fun _ h => h) _ _ _ ?_)
 have := wpAnyS_lex (md := .any) (P := P) (w := w.drew) (Q := fun a' => Q .normal a' w.drew) hB.1 l 0 (Array.replicate l.toArray.size false) a (fun j => by simp) (by simpa using hB.2) h
 simpa using this
theorem wp_still_tail {id : Nat} {Q : Exit → Act → World → Prop} {a : Act} {w : World} {l : List Oper} (n : Nat) (hm : P.follows .mixedOrders = true) (hB : Region.lexTailB .any l.toArray n = true)
  (h : wpStill P l.toArray w.drew (fun a' => wpList P l.toArray Q (l.drop n) a' w.drew) (l.take n) a) : (Code.region id l.toArray true).wp P Q a w :=
 wp_region_still_tail n hm hB h
theorem wp_still_all {id : Nat} {Q : Exit → Act → World → Prop} {a : Act} {w : World} {l : List Oper} (hm : P.follows .mixedOrders = true) (hB : Region.lexB .any l.toArray = true)
  (h : wpStill P l.toArray w.drew (fun a' => Q .normal a' w.drew) l a) : (Code.region id l.toArray true).wp P Q a w :=
 wp_region_still_lit hm hB h
end
end Go.Mine
namespace Go.Mine
open Go.RowKit

theorem hide {p : Prop} (h : p) : Hid p := h
theorem ret_bool {a b : Bool} (h : a = b) : Ending.returned (.bool a) = .returned (.bool b) := by rw [h]
theorem ret_int {k : IntKind} {a b : Int} (h : a = b) : Ending.returned (.int k a) = .returned (.int k b) := by rw [h]
/-! ### flat lists of cells -/
theorem flat_length {α : Type} (f : α → List Value) (sz : Nat) : ∀ (l : List α), (∀ x ∈ l, (f x).length = sz) → (l.flatMap f).length = l.length * sz
 | [], _ => by simp
 | x :: l, h => by
  rw [List.flatMap_cons, List.length_append, h x (by simp), flat_length f sz l (fun y hy => h y (by simp [hy])), List.length_cons, Nat.succ_mul]; omega
theorem flat_get {α : Type} (f : α → List Value) (sz : Nat) : ∀ (l : List α) (k j : Nat) (x : α) (v : Value), (∀ x ∈ l, (f x).length = sz) → l[k]? = some x → (f x)[j]? = some v → (l.flatMap f)[k * sz + j]? = some v
 | [], k, j, x, v, _, hk, _ => by simp at hk
 | y :: l, 0, j, x, v, h, hk, hj => by
  simp at hk; subst hk
  have hlt := (List.getElem?_eq_some_iff.1 hj).1
  rw [List.flatMap_cons, Nat.zero_mul, Nat.zero_add, List.getElem?_append_left hlt]; exact hj
 | y :: l, k + 1, j, x, v, h, hk, hj => by
  have hy := h y (by simp)
  rw [List.flatMap_cons, List.getElem?_append_right (by rw [hy, Nat.succ_mul]; omega), hy, show (k + 1) * sz + j - sz = k * sz + j from by rw [Nat.succ_mul]; omega]
  exact flat_get f sz l k j x v (fun z hz => h z (by simp [hz])) (by simpa using hk) hj

structure Sl {α : Type} (f : α → List Value) (sz : Nat) (w : World) (A : Option Addr) (c : Nat) (l : List α) : Prop where
 le : l.length ≤ c
 max : c ≤ 9223372036854775807
 size : ∀ x ∈ l, (f x).length = sz
 cells : l ≠ [] → ∃ b off, A = some ⟨b, off, none⟩ ∧ b < w.heap.size ∧ ∀ i v, (l.flatMap f)[i]? = some v → w.cell? ⟨b, off + i, none⟩ = some v

section
variable {α : Type} {f : α → List Value} {sz : Nat} {w w' : World} {A : Option Addr} {c : Nat} {l : List α}
theorem Sl.below (h : Sl f sz w A c l) {B : Nat} (hb : Below B w w') (hB : w.heap.size ≤ B) : Sl f sz w' A c l :=
 ⟨h.le, h.max, h.size, fun hn => by
  obtain ⟨b, off, e, hbw, hc⟩ := h.cells hn
  exact ⟨b, off, e, Nat.lt_of_lt_of_le hbw hb.size, fun i v hv => (hb.cell (p := ⟨b, off + i, none⟩) (Nat.lt_of_lt_of_le hbw hB)).trans (hc i v hv)⟩⟩
theorem Sl.bel (h : Sl f sz w A c l) (hb : Below w.heap.size w w') : Sl f sz w' A c l := h.below hb (Nat.le_refl _)
theorem Sl.alloc (h : Sl f sz w A c l) (o : Obj) : Sl f sz (w.alloc o) A c l := h.bel ((Below.refl _ _).alloc (Nat.le_refl _) _)
theorem Sl.drew (h : Sl f sz w A c l) : Sl f sz w.drew A c l := h.bel (Below.refl _ _).drew
theorem Sl.nil (hc : c ≤ 9223372036854775807) : Sl f sz w A c ([] : List α) := ⟨by simp, hc, by simp, by simp⟩
theorem Sl.at_ (h : Sl f sz w A c l) {k : Nat} (hk : k < l.length) : ∃ x b off, l[k]? = some x ∧ l.drop k = x :: l.drop (k + 1) ∧ A = some ⟨b, off, none⟩ ∧ b < w.heap.size ∧
  ∀ j v, (f x)[j]? = some v → w.cell? ⟨b, off + (k * sz + j), none⟩ = some v := by
 obtain ⟨b, off, e, hbw, hc⟩ := h.cells (by intro e; subst e; simp at hk)
 refine ⟨l[k], b, off, List.getElem?_eq_getElem hk, List.drop_eq_getElem_cons hk, e, hbw, fun j v hv => ?_⟩
 exact hc _ v (flat_get f sz l k j _ v h.size (List.getElem?_eq_getElem hk) hv)
theorem Sl.addr (h : Sl f sz w A c l) (hn : l ≠ []) : ∃ b off, A = some ⟨b, off, none⟩ ∧ b < w.heap.size ∧ ∀ k x, l[k]? = some x → ∀ j v, (f x)[j]? = some v → w.cell? ⟨b, off + (k * sz + j), none⟩ = some v := by
 obtain ⟨b, off, e, hbw, hc⟩ := h.cells hn
 exact ⟨b, off, e, hbw, fun k x hx j v hv => hc _ v (flat_get f sz l k j _ v h.size hx hv)⟩
end

def SlV {α : Type} (f : α → List Value) (sz : Nat) (w : World) (v : Value) (l : List α) : Prop := ∃ A c, v = .slice A l.length c ∧ Sl f sz w A c l

def OwnL {α : Type} (f : α → List Value) (sz : Nat) (e : TypeId) (w : World) (base : Nat) (v : Value) (l : List α) : Prop :=
 w.ownsRow base e sz v l.length (l.flatMap f) ∧ ∀ x ∈ l, (f x).length = sz

theorem OwnL.sl {α : Type} {f : α → List Value} {sz : Nat} {e : TypeId} {w : World} {base : Nat} {v : Value} {l : List α} (h : OwnL f sz e w base v l) : SlV f sz w v l := by
 obtain ⟨⟨hl, h1⟩, hs⟩ := h
 rcases h1 with ⟨rfl, hn⟩ | ⟨g, cap, cur, rfl, hg, hh, hn, hc, hz, ht⟩
 ·have : l = [] := List.length_eq_zero_iff.1 hn
  subst this
  exact ⟨none, 0, rfl, Sl.nil (by omega)⟩
 ·refine ⟨some ⟨g, 0, none⟩, cap, rfl, hn, by simpa [maxLen] using hc, hs, fun hne => ⟨g, 0, rfl, (Array.getElem?_eq_some_iff.1 hh).1, fun i u hu => ?_⟩⟩
  rw [World.cell?, hh]
  simp only [Nat.zero_add]
  have hlt := (List.getElem?_eq_some_iff.1 hu).1
  rw [hl] at hlt
  rw [← ht, List.getElem?_take_of_lt hlt] at hu
  simpa using hu
theorem OwnL.nil {α : Type} (f : α → List Value) (sz : Nat) (e : TypeId) (w : World) (base : Nat) : OwnL f sz e w base (.slice none 0 0) ([] : List α) :=
 ⟨⟨by simp, .inl ⟨rfl, rfl⟩⟩, by simp⟩
theorem OwnL.keep {α : Type} {f : α → List Value} {sz : Nat} {e : TypeId} {w w' : World} {base : Nat} {v : Value} {l : List α} (h : OwnL f sz e w base v l)
  (hk : ∀ g, v.ownBlock = some g → w'.heap[g]? = w.heap[g]?) : OwnL f sz e w' base v l := by
 obtain ⟨⟨hl, h1⟩, hs⟩ := h
 refine ⟨⟨hl, ?_⟩, hs⟩
 rcases h1 with ⟨rfl, hn⟩ | ⟨g, cap, cur, rfl, hg, hh, r⟩
 ·exact .inl ⟨rfl, hn⟩
 ·exact .inr ⟨g, cap, cur, rfl, hg, (hk g rfl).trans hh, r⟩
theorem OwnL.blk {α : Type} {f : α → List Value} {sz : Nat} {e : TypeId} {w : World} {base : Nat} {v : Value} {l : List α} (h : OwnL f sz e w base v l) {g : Nat} (hg : v.ownBlock = some g) :
  base ≤ g ∧ g < w.heap.size ∧ ∃ cur, w.heap[g]? = some (.cells cur e (0, 0)) := by
 obtain ⟨⟨hl, h1⟩, hs⟩ := h
 rcases h1 with ⟨rfl, hn⟩ | ⟨g', cap, cur, rfl, hg', hh, r⟩
 ·simp [Value.ownBlock] at hg
 ·simp [Value.ownBlock] at hg
  subst hg
  exact ⟨hg', (Array.getElem?_eq_some_iff.1 hh).1, cur, hh⟩
theorem OwnL.bel {α : Type} {f : α → List Value} {sz : Nat} {e : TypeId} {w w' : World} {base : Nat} {v : Value} {l : List α} (h : OwnL f sz e w base v l) (hb : Below w.heap.size w w') : OwnL f sz e w' base v l :=
 h.keep fun g hg => hb.block g (h.blk hg).2.1
theorem OwnL.mono {α : Type} {f : α → List Value} {sz : Nat} {e : TypeId} {w : World} {base base' : Nat} {v : Value} {l : List α} (h : OwnL f sz e w base v l) (hb : base' ≤ base) : OwnL f sz e w base' v l := by
 obtain ⟨⟨hl, h1⟩, hs⟩ := h
 refine ⟨⟨hl, ?_⟩, hs⟩
 rcases h1 with h1 | ⟨g, cap, cur, rfl, hg, r⟩
 ·exact .inl h1
 ·exact .inr ⟨g, cap, cur, rfl, Nat.le_trans hb hg, r⟩

/-! ### a box: a block of one cell, none of the iterator's -/
structure Bx (O : Nat → Prop) (W : World) (b : Nat) (t : TypeId) (v : Value) : Prop where
 no : ¬ O b
 at_ : W.heap[b]? = some (.cells #[v] t (0, 0))
section
variable {O O' : Nat → Prop} {W W' : World} {b : Nat} {t : TypeId} {v : Value}
theorem Bx.lt (h : Bx O W b t v) : b < W.heap.size := (Array.getElem?_eq_some_iff.1 h.at_).1
theorem Bx.cell (h : Bx O W b t v) : W.cell? ⟨b, 0, none⟩ = some v := by simp [World.cell?, h.at_]
theorem Bx.frozen (h : Bx O W b t v) : W.frozen? ⟨b, 0, none⟩ = false := by simp [World.frozen?, h.at_]
theorem Bx.step (h : Bx O W b t v) (s : IStep O O' W W') : Bx O' W' b t v :=
 ⟨fun h' => by rcases (s.owns b).1 h' with h1 | h1; exact h.no h1; have := h.lt; omega, (s.keep b h.lt h.no).trans h.at_⟩
theorem Bx.alloc (h : Bx O W b t v) (o : Obj) : Bx O (W.alloc o) b t v := ⟨h.no, (Below.heap_alloc _ _ _ h.lt).trans h.at_⟩
theorem Bx.set (h : Bx O W b t v) (u : Value) : Bx O (W.setCell ⟨b, 0, none⟩ u) b t u := ⟨h.no, by simp [World.setCell, Array.getElem?_modify, h.at_]⟩
theorem Bx.of (hn : ¬ O b) (h : W.heap[b]? = some (.cells #[v] t (0, 0))) : Bx O W b t v := ⟨hn, h⟩
theorem Bx.grown (h : Bx O W b t v) {row : Option Nat} (hg : W.grownBy W' row) (hr : some b ≠ row) : Bx O W' b t v := ⟨h.no, (hg.block b h.lt hr).trans h.at_⟩
theorem heap_new (w : World) (o : Obj) : (w.alloc o).heap[w.heap.size]? = some o := World.alloc_heap_new w o
end
theorem IStep.below {O O' : Nat → Prop} {A W W' : World} {B : Nat} (s : IStep O O' W W') (h : Below B A W) (hB : B ≤ W.heap.size) (hO : ∀ b, O b → B ≤ b) : Below B A W' :=
 h.trans ⟨s.os, s.tape, s.output, s.size, fun k hk => s.keep k (by omega) (fun h' => by have := hO k h'; omega)⟩

theorem gb_below {a w : World} (h : Below a.heap.size a w) (row : Option Nat) : a.grownBy w row := ⟨h.os, h.tape, h.output, h.size, fun i hi _ => h.block i hi⟩
theorem gb_trans {a b c : World} {row : Option Nat} (h : a.grownBy b row) (k : b.grownBy c row) : a.grownBy c row :=
 ⟨k.os.trans h.os, k.tape.trans h.tape, k.output.trans h.output, Nat.le_trans h.size k.size, fun i hi hne => (k.block i (Nat.lt_of_lt_of_le hi h.size) hne).trans (h.block i hi hne)⟩
theorem heap_set_at {w : World} {g i : Nat} {cur : Array Value} {e : TypeId} {f : Nat × Nat} (h : w.heap[g]? = some (.cells cur e f)) (u : Value) : (w.setCell ⟨g, i, none⟩ u).heap[g]? = some (.cells (cur.setIfInBounds i u) e f) := by
 simp [World.setCell, Array.getElem?_modify, h]
theorem heap_alloc_at {w : World} {g : Nat} {x : Obj} (h : w.heap[g]? = some x) (o : Obj) : (w.alloc o).heap[g]? = some x := (Below.heap_alloc _ _ _ (Array.getElem?_eq_some_iff.1 h).1).trans h

theorem row_cells {W : World} {g : Nat} {cs : Array Value} {e : TypeId} {f : Nat × Nat} (h : W.heap[g]? = some (.cells cs e f)) (l : List Value) (hl : cs.toList = l) : ∀ j u, l[j]? = some u → W.cell? ((⟨g, 0, none⟩ : Addr).add j) = some u := by
 intro j u hu
 have : ((⟨g, 0, none⟩ : Addr).add j) = ⟨g, j, none⟩ := by unfold Addr.add; split <;> simp_all
 rw [this, World.cell?, h]
 subst hl
 simpa using hu
theorem new_row1 (w : World) (o : Obj) (x : Obj) : ((w.alloc o).alloc x).heap[w.heap.size + 1]? = some x := by have := heap_new (w.alloc o) x; rwa [World.size_alloc] at this
theorem OwnL.append {α : Type} {f : α → List Value} {sz : Nat} {e : TypeId} {w w1 : World} {base : Nat} {v v' : Value} {l : List α} {x : α} (h : OwnL f sz e w base v l) (hx : (f x).length = sz) (hw : w1.ownsRow base e sz v' (l.length + 1) (l.flatMap f ++ f x)) : OwnL f sz e w1 base v' (l ++ [x]) :=
 ⟨by simpa using hw, by intro y hy; rcases List.mem_append.1 hy with hy | hy; exact h.2 y hy; simp at hy; subst hy; exact hx⟩
theorem OwnL.alloc {α : Type} {f : α → List Value} {sz : Nat} {e : TypeId} {w : World} {base : Nat} {v : Value} {l : List α} (h : OwnL f sz e w base v l) (o : Obj) : OwnL f sz e (w.alloc o) base v l := h.bel ((Below.refl _ _).alloc (Nat.le_refl _) _)
theorem OwnL.drew {α : Type} {f : α → List Value} {sz : Nat} {e : TypeId} {w : World} {base : Nat} {v : Value} {l : List α} (h : OwnL f sz e w base v l) : OwnL f sz e w.drew base v l := h.bel (Below.refl _ _).drew
theorem OwnL.grown {α : Type} {f : α → List Value} {sz : Nat} {e : TypeId} {w w' : World} {base : Nat} {v : Value} {l : List α} (h : OwnL f sz e w base v l) {row : Option Nat} (hg : w.grownBy w' row) (hr : ∀ g, v.ownBlock = some g → some g ≠ row) : OwnL f sz e w' base v l :=
 h.keep fun g hgo => hg.block g (h.blk hgo).2.1 (hr g hgo)

structure OwnO {α : Type} (f : α → List Value) (sz : Nat) (e : TypeId) (O : Nat → Prop) (w : World) (base : Nat) (v : Value) (l : List α) : Prop where
 own : OwnL f sz e w base v l
 no : ∀ g, v.ownBlock = some g → ¬ O g
/-! ### marks -/
def marksOf (ds : List Nat) : List Deferred := ds.map fun r => { target := .collected r, args := #[] }

theorem leaves_marks {F : Fence} {n : Nat} {P : Program} {fn : Func} {tmps : Array Value} {R : Ending → World → Prop} {u : FrameMode} (hu : u ≠ .run) :
  ∀ (ds : List Nat) (w : World), (∀ r ∈ ds, w.heap[r]? = some (.deferred (some []))) → ds.Nodup →
   (∀ w', IStep (· ∈ ds) (· ∈ ds) w w' → w'.heap.size = w.heap.size → LeavesInM F n P fn tmps R [] u w') → LeavesInM F n P fn tmps R (marksOf ds) u w
 | [], w, _, _, h => h w (IStep.refl _ _) rfl
 | r :: ds, w, hd, hn, h => by
  obtain ⟨hr, hn'⟩ := List.nodup_cons.1 hn
  refine ⟨hu, .inl ⟨r, _, rfl, run_takeDeferred (hd r (by simp)), ?_⟩⟩
  refine leaves_marks hu ds _ (fun q hq => (World.putObj_heap_other (fun e => hr (by rw [← e]; exact hq))).trans (hd q (by simp [hq]))) hn' (fun w' st hz => h w' ?_ (by rw [hz]; simp))
  have s1 : IStep (· ∈ r :: ds) (· ∈ r :: ds) w (w.putObj r (.deferred none)) := IStep.putObj _ _ _ (by simp)
  refine s1.trans ⟨st.os, st.tape, st.output, st.size, fun b hb hO => st.keep b hb (fun h' => hO (by simp [h'])), fun b => ?_⟩
  rw [hz]; constructor
  ·exact .inl
  ·rintro (h | h)
   ·exact h
   ·omega

theorem leaves_mark1 {F : Fence} {n : Nat} {P : Program} {fn : Func} {tmps : Array Value} {R : Ending → World → Prop} {D : Nat} {w : World} {v : Value} (hD : w.heap[D]? = some (.deferred (some [])))
  (hres : (results fn tmps).run P (w.putObj D (.deferred none)) = .ok v (w.putObj D (.deferred none))) (hR : R (.returned v) (w.putObj D (.deferred none))) :
  LeavesInM F n P fn tmps R [{ target := .collected D, args := #[] }] .returning w :=
 ⟨by simp, .inl ⟨D, _, rfl, run_takeDeferred hD, v, hres, hR⟩⟩
theorem below_put {B : Nat} {A W : World} (h : Below B A W) {D : Nat} (o : Obj) (hD : B ≤ D) : Below B A (W.putObj D o) :=
 h.trans ⟨rfl, rfl, rfl, by simp, fun k hk => World.putObj_heap_other (by omega)⟩
end Go.Mine
namespace Go.Mine
open Go.RowKit

structure BW (w0 : World) where
 world : World
 below : Below w0.heap.size w0 world
instance (w0 : World) : Nonempty (BW w0) := ⟨⟨w0, Below.refl _ _⟩⟩
section
variable {P : Program} {w : World}
end
end Go.Mine
namespace Go.Mine
open Go.RowKit
structure Blk (w : World) (b : Nat) (ty : TypeId) (cs : Array Value) : Prop where
 lt : b < w.heap.size
 at_ : w.heap[b]? = some (.cells cs ty (0, 0))
section
variable {w w' : World} {b : Nat} {ty : TypeId} {cs : Array Value}
theorem Blk.bel (h : Blk w b ty cs) (k : Below w.heap.size w w') : Blk w' b ty cs := ⟨Nat.lt_of_lt_of_le h.lt k.size, (k.block _ h.lt).trans h.at_⟩
theorem Blk.alloc (h : Blk w b ty cs) (o : Obj) : Blk (w.alloc o) b ty cs := ⟨by have := h.lt; simp; omega, heap_alloc_at h.at_ o⟩
theorem Blk.new (w : World) (cs : Array Value) (ty : TypeId) : Blk (w.alloc (.cells cs ty)) w.heap.size ty cs := ⟨by simp, heap_new _ _⟩
theorem Blk.new1 (w : World) (o : Obj) (cs : Array Value) (ty : TypeId) : Blk ((w.alloc o).alloc (.cells cs ty)) (w.heap.size + 1) ty cs := ⟨by simp, new_row1 _ _ _⟩
theorem Blk.new2 (w : World) (o o' : Obj) (cs : Array Value) (ty : TypeId) : Blk (((w.alloc o).alloc o').alloc (.cells cs ty)) (w.heap.size + 2) ty cs := ⟨by simp, by have := heap_new ((w.alloc o).alloc o') (.cells cs ty); simpa using this⟩
theorem Blk.new3 (w : World) (o o' o'' : Obj) (cs : Array Value) (ty : TypeId) : Blk ((((w.alloc o).alloc o').alloc o'').alloc (.cells cs ty)) (w.heap.size + 3) ty cs := ⟨by simp, by have := heap_new (((w.alloc o).alloc o').alloc o'') (.cells cs ty); simpa using this⟩
theorem Blk.drew (h : Blk w b ty cs) : Blk w.drew b ty cs := ⟨h.lt, h.at_⟩
theorem Blk.cell (h : Blk w b ty cs) (i : Nat) {v : Value} (hv : cs[i]? = some v) : w.cell? ⟨b, i, none⟩ = some v := by simp [World.cell?, h.at_, hv]
theorem Blk.thaw (h : Blk w b ty cs) (i : Nat) : w.frozen? ⟨b, i, none⟩ = false := by simp [World.frozen?, h.at_]
theorem Blk.far (h : Blk w b ty cs) (p : Addr) (u : Value) (hp : b ≠ p.block) : Blk (w.setCell p u) b ty cs := ⟨by have := h.lt; simpa [World.setCell] using this, (Below.heap_setCell _ _ _ _ hp).trans h.at_⟩
theorem Blk.set (h : Blk w b ty cs) (i : Nat) (u : Value) {cs' : Array Value} (hc : cs.setIfInBounds i u = cs') : Blk (w.setCell ⟨b, i, none⟩ u) b ty cs' := ⟨by have := h.lt; simpa [World.setCell] using this, by rw [heap_set_at h.at_]; rw [hc]⟩
theorem kalloc {w0 : World} (h : Below w0.heap.size w0 w) (o : Obj) : Below w0.heap.size w0 (w.alloc o) := h.alloc h.size o
theorem kcall {w0 : World} (h : Below w0.heap.size w0 w) (k : Below w.heap.size w w') : Below w0.heap.size w0 w' := h.trans (k.mono h.size)
theorem at_world {P : Program} {c : Code} {Q : Exit → Act → World → Prop} {a : Act} {w0 : World} (S : World → Prop) (h0 : S w0) (h : ∀ w3, S w3 → Code.wp P c Q a w3) : Code.wp P c Q a w0 := h w0 h0
end
end Go.Mine
namespace Go.Mine
open Go.RowKit
section
variable {α : Type} {f : α → List Value} {sz : Nat} {e : TypeId} {P : Program} {w : World} {Q : Exit → Act → World → Prop}
theorem wpList_push {ops : Array Oper} {rest : List Oper} {o : Oper} {a : Act} (hgd : o.guard = none) (s x : Operand) (t : TypeId)
  (ho : o.op = .call { callee := .builtin .append, args := #[s, x], argTypes := #[t, t] })
  {base : Nat} {i : TypeInfo} {z : Value} {bytes : Nat} (ht : P.underlying t = some (.slice e)) (hi : P.info? e = some i) (hz : i.zero = some z)
  (hsize : i.size = sz) (hby : i.bytes = bytes) (hzs : z.cells.size = sz) (hsz : 0 < sz)
  {v : Value} {l : List α} (hs : a.eval s = v) (hown : OwnL f sz e w base v l)
  {b : Nat} {c : Nat} {y : α} {cs : Array Value} {e' : TypeId} (hx : a.eval x = .slice (some ⟨b, 0, none⟩) 1 c) (hb : w.heap[b]? = some (.cells cs e' (0, 0))) (hcs : cs.toList = f y) (hlen : (f y).length = sz)
  (h1 : ∀ u ∈ f y, u.oneCell' = true) (h63 : l.length + 1 ≤ maxLen) (hbytes : (l.length + 1) * bytes ≤ 140737488355328) (hbase : base ≤ w.heap.size)
  (h : ∀ v' w', OwnL f sz e w' base v' (l ++ [y]) → w.grownBy w' v.ownBlock → (∀ g, v'.ownBlock = some g → v.ownBlock = some g ∨ w.heap.size ≤ g) → wpList P ops Q rest (a.put o.dst v') w') :
  wpList P ops Q (o :: rest) a w := by
 refine wpList_append_own_at _ hgd s x t ho base e i z sz bytes ht hi hz hsize hby hzs hsz v l.length _ hs hown.1 ⟨b, 0, none⟩ 1 c (f y) hx (by rw [hlen, Nat.one_mul]) (row_cells hb _ hcs) h1 h63 hbytes hbase ?_
 intro v' w' hown' hgrow _ hat
 refine h v' w' (hown.append hlen hown') hgrow (fun g hg => ?_)
 rcases hat with hat | hat <;> rw [hat] at hg
 ·exact .inl hg
 ·exact .inr (by simp at hg; omega)

theorem OwnL.fresh (w : World) {base : Nat} (hb : base ≤ w.heap.size) : OwnL f sz e (w.alloc (.cells #[] e)) base (.slice (some ⟨w.heap.size, 0, none⟩) 0 0) ([] : List α) :=
 ⟨⟨by simp, .inr ⟨w.heap.size, 0, #[], by simp, hb, heap_new _ _, by simp, by simp [maxLen], by simp, by simp⟩⟩, by simp⟩

end
end Go.Mine
namespace Go.Mine
open Go.RowKit
section
variable {α : Type} {f : α → List Value} {sz : Nat} {e : TypeId} {P : Program} {w : World}

theorem run_extend {t ty : TypeId} {base : Nat} {i : TypeInfo} {z : Value} {bytes : Nat} (ht : P.underlying t = some (.slice e)) (hi : P.info? e = some i) (hz : i.zero = some z)
  (hsize : i.size = sz) (hby : i.bytes = bytes) (hzs : z.cells.size = sz) (hsz : 0 < sz)
  {v : Value} {l1 l2 : List α} (hown : OwnL f sz e w base v l1) {A : Option Addr} {c : Nat} (h2 : Sl f sz w A c l2)
  (h1 : ∀ x ∈ l2, ∀ u ∈ f x, u.oneCell' = true) (h63 : l1.length + l2.length ≤ maxLen) (hbytes : (l1.length + l2.length) * bytes ≤ 140737488355328) (hbase : base ≤ w.heap.size) :
  ∃ v' w', (Builtin.append_ #[t, t] ty #[v, .slice A l2.length c]).run P w = .ok v' w' ∧ OwnL f sz e w' base v' (l1 ++ l2) ∧ w.grownBy w' v.ownBlock ∧ (∀ g, v'.ownBlock = some g → v.ownBlock = some g ∨ w.heap.size ≤ g) := by
 have hs2 : ∀ x ∈ l1 ++ l2, (f x).length = sz := fun x hx => by
  rcases List.mem_append.1 hx with hx | hx
  ·exact hown.2 x hx
  ·exact h2.size x hx
 cases A with
 | none =>
  have hn : l2 = [] := by
   rcases Classical.em (l2 = []) with h | h
   ·exact h
   ·obtain ⟨b, off, hh, _⟩ := h2.cells h; cases hh
  subst hn
  refine ⟨v, w, ?_, by simpa using hown, World.grownBy.refl w _, fun g hg => .inl hg⟩
  obtain ⟨⟨hl, h3⟩, _⟩ := hown
  rcases h3 with ⟨rfl, _⟩ | ⟨g, cap, cur, rfl, _, hg, hnc, _⟩
  ·simp [Builtin.append_, run_underlying ht, sizeOf, typeInfo, hi, Builtin.lenOf, Builtin.firstCells]
  ·simp [Builtin.append_, run_underlying ht, sizeOf, typeInfo, hi, Builtin.lenOf, Builtin.firstCells, loadCells, storeCells, hnc]
 | some ad =>
  have hnews : ∀ j u, (l2.flatMap f)[j]? = some u → w.cell? (ad.add j) = some u := by
   intro j u hj
   have hne : l2 ≠ [] := by rintro rfl; simp at hj
   obtain ⟨b, off, ha, _, hc⟩ := h2.cells hne
   obtain rfl : ad = ⟨b, off, none⟩ := by simpa using ha
   have hadd : ((⟨b, off, none⟩ : Addr).add j) = ⟨b, off + j, none⟩ := by unfold Addr.add; split <;> simp_all
   rw [hadd]
   exact hc j u hj
  obtain ⟨v', w', hr, q2, q3, q4, q5⟩ := run_append_own_at (P := P) w base t ty e i z sz bytes ht hi hz hsize hby hzs hsz v l1.length _ hown.1 ad l2.length c (l2.flatMap f) (flat_length f sz l2 h2.size) hnews
   (fun u hu => by obtain ⟨x, hx, hux⟩ := List.mem_flatMap.1 hu; exact h1 x hx u hux) h63 hbytes hbase
  refine ⟨v', w', hr, ⟨by simpa using q2, hs2⟩, q3, fun g hg => ?_⟩
  rcases q5 with hat | hat <;> rw [hat] at hg
  ·exact .inl hg
  ·exact .inr (by simp at hg; omega)

theorem step_append {ops : Array Oper} {o : Oper} {a : Act} {K : Act → World → Prop} {Q : Exit → Act → World → Prop} {E : Prop} (hg : o.guard = none) (s x : Operand) (t : TypeId)
  (hop : o.op = Op.call { callee := Callee.builtin Builtin.append, args := #[s, x], argTypes := #[t, t] }) {v u : Value} (hs : a.eval s = v) (hx : a.eval x = u) {G : Value → World → Prop}
  (hrun : ∃ v' w', (Builtin.append_ #[t, t] o.type #[v, u]).run P w = .ok v' w' ∧ G v' w') (hK : ∀ v' w', G v' w' → K (a.put o.dst v') w') :
  if Region.wanted o (yielded ops a.tmps) = true then Oper.wp P o a w K Q else E := by
 have hw : Region.wanted o (yielded ops a.tmps) = true := by simp [Region.wanted, hg]
 rw [if_pos hw]
 obtain ⟨v', w', hr, hG⟩ := hrun
 unfold Oper.wp
 simp [execOp, hop, resolve, invoke, builtin, hs, hx, hr, Result.andThen]
 exact hK _ _ hG
theorem wpList_append {ops : Array Oper} {rest : List Oper} {o : Oper} {a : Act} {Q : Exit → Act → World → Prop} (hg : o.guard = none) (s x : Operand) (t : TypeId)
  (hop : o.op = Op.call { callee := Callee.builtin Builtin.append, args := #[s, x], argTypes := #[t, t] }) {v u : Value} (hs : a.eval s = v) (hx : a.eval x = u) {G : Value → World → Prop}
  (hrun : ∃ v' w', (Builtin.append_ #[t, t] o.type #[v, u]).run P w = .ok v' w' ∧ G v' w') (hK : ∀ v' w', G v' w' → wpList P ops Q rest (a.put o.dst v') w') :
  wpList P ops Q (o :: rest) a w := by
 refine wpList_plain hg fun K hK' => ?_
 obtain ⟨v', w', hr, hG⟩ := hrun
 unfold Oper.wp execOp
 simp only [hop, resolve, invoke, builtin, Sem.run_bind, Sem.run_pure, Result.andThen_ok, List.map_toArray, List.map_cons, List.map_nil, hs, hx, hr]
 exact hK' _ _ (hK _ _ hG)

def onlyN (T : Act → World → Prop) : Exit → Act → World → Prop
 | .normal, a, w => T a w
 | _, _, _ => False
theorem wp_cut {c : Code} {Q : Exit → Act → World → Prop} {a : Act} (T : Act → Act → World → Prop) (h : c.wp P (onlyN (T a)) a w) (h2 : ∀ a' w', T a a' w' → Q .normal a' w') : c.wp P Q a w := by
 intro b k cs
 obtain ⟨e, a', w', hT, harr⟩ := h b k cs
 cases e <;> first | exact hT.elim | exact ⟨_, a', w', h2 _ _ hT, harr⟩
theorem OwnL.fresh' {W : World} {base g : Nat} (hg : W.heap.size = g) (hb : base ≤ g) : OwnL f sz e (W.alloc (.cells #[] e)) base (.slice (some ⟨g, 0, none⟩) 0 0) ([] : List α) := by
 subst hg; exact OwnL.fresh W hb
theorem Blk.new' {W : World} {g : Nat} {cs : Array Value} {ty : TypeId} (hg : W.heap.size = g) : Blk (W.alloc (.cells cs ty)) g ty cs := by subst hg; exact Blk.new W cs ty
theorem Blk.grown {W W' : World} {b : Nat} {ty : TypeId} {cs : Array Value} (h : Blk W b ty cs) {row : Option Nat} (hg : W.grownBy W' row) (hr : some b ≠ row) : Blk W' b ty cs := ⟨Nat.lt_of_lt_of_le h.lt hg.size, (hg.block b h.lt hr).trans h.at_⟩
theorem Sl.one {W : World} {b c : Nat} {ty : TypeId} {cs : Array Value} (h : Blk W b ty cs) {x : α} (hx : cs.toList = f x) (hl : (f x).length = sz) (h1 : 1 ≤ c) (hc : c ≤ 9223372036854775807) : Sl f sz W (some ⟨b, 0, none⟩) c [x] :=
 ⟨by simpa using h1, hc, by simpa using hl, fun _ => ⟨b, 0, rfl, h.lt, fun i v hv => by
  simp only [Nat.zero_add, World.cell?, h.at_]
  rw [← Array.getElem?_toList, hx]
  simpa using hv⟩⟩
theorem gcell {W W' : World} {row : Option Nat} {b o : Nat} {v : Value} (hg : W.grownBy W' row) (hb : b < W.heap.size) (hr : some b ≠ row) (hc : W.cell? ⟨b, o, none⟩ = some v) : W'.cell? ⟨b, o, none⟩ = some v := by
 rw [← hc]; simp only [World.cell?, hg.block b hb hr]
end
end Go.Mine
namespace Go.Mine
open Go.RowKit Go.WideShapes Go.ChangeShapes Go.Deep
section
variable {H : Type} {enc : TypeId × Value → H} {P : Program}

theorem trodAll_stays (hl : laidOutB P = true) {W W' : World} {sp' : Nat → Bool} : ∀ (ts : List TypeId) (vs : List Value) (ds : List (DataW H)) (ps : List MemPlace),
  (∀ t ∈ ts, P.readableRec t = true ∧ t < P.types.size) → DataW.TrodAll enc P W 0 (fun _ => true) true ts vs ds ps → (∀ p ∈ ps, W.sameAt W' p) → (∀ p ∈ ps, sp' p.block = true) →
  DataW.TrodAll enc P W' 0 sp' true ts vs ds ps
 | [], vs, ds, ps, _, h, _, _ => by
  obtain ⟨rfl, rfl, rfl⟩ := trodAll_nil h
  exact trodAll_mk0
 | t :: ts, vs, ds, ps, hr, h, hsame, hsp => by
  obtain ⟨v, vs', d, ds', p, q, rfl, rfl, rfl, h1, h2⟩ := trodAll_cons h
  obtain ⟨r1, r2⟩ := hr t (by simp)
  exact trodAll_cons_mk (WideElems.Trod_stays hl r1 r2 h1 (fun x hx => hsame x (by simp [hx])) (fun x hx => hsp x (by simp [hx])))
   (trodAll_stays hl ts vs' ds' q (fun t ht => hr t (by simp [ht])) h2 (fun x hx => hsame x (by simp [hx])) (fun x hx => hsp x (by simp [hx])))

theorem post_law {f : Func} {s : ChangeSpec} {apart fresh handsOn again : Bool} {W W' : World} {args : Array Value} {ds : List (DataW H)} {before : List MemPlace} {tb : TypeId}
  (hl : laidOutB P = true) (hW : DataW.Whole enc P f.params.toList s.vars apart W args.toList ds [] before)
  (hA : DataW.TrodAll enc P W 0 (fun _ => true) true f.params.toList args.toList ds before) (hv : s.vars = [])
  (hfn : s.fn H (ds ++ []) = { results := [.lit (.bool true)], args := ds }) (hrt : f.resultTypes = #[tb]) (htb : P.underlying tb = some .bool)
  (hread : ∀ t ∈ f.params.toList, P.readableRec t = true ∧ t < P.types.size) (hb : Below W.heap.size W W') :
  s.post enc P f apart fresh handsOn again W args (.bool true) W' := by
 have hlt : ∀ p ∈ before, p.block < W.heap.size := fun p hp => hW.lt p hp
 have hres : ∀ (b : Nat) (sp : Nat → Bool) (hd : Bool), DataW.TrodAll enc P W' b sp hd f.resultTypes.toList ((Value.bool true).resultList f.resultTypes.size) (s.fn H (ds ++ [])).results [] := by
  intro b sp hd
  rw [hfn, hrt]
  exact trodAll_mk1 (shut_bool htb true)
 have hargs : ∀ sp : Nat → Bool, (∀ p ∈ before, sp p.block = true) → DataW.TrodAll enc P W' 0 sp true f.params.toList args.toList (s.fn H (ds ++ [])).args before := by
  intro sp hsp
  rw [hfn]
  exact trodAll_stays hl _ _ _ _ hread hA (fun p hp => hb.same (hlt p hp)) hsp
 have hvars : ∀ sp : Nat → Bool, DataW.TrodVars enc P W' sp s.vars (s.fn H (ds ++ [])).vars [] := by
  intro sp
  rw [hfn, hv]; rfl
 have hold : ∀ p ∈ before, (fun b => decide (b < W.heap.size)) p.block = true := fun p hp => by simpa using hlt p hp
 refine ⟨ds, [], before, [], before, [], hW, hres _ _ _, hargs _ hold, hvars _, World.keptBut_mono (fun p hp => ⟨hp, ?_⟩) (hb.frame (· ∈ before)), fun _ => ?_⟩
 ·exact .inr (.inl hp)
 ·obtain ⟨_, _, _, _, _, hz, hn⟩ := hW
  refine ⟨fun j t r h1 h2 => ?_, _, _, ([] ++ before) ++ [], ⟨[] ++ before, [], trodAll_append (hargs _ (fun _ _ => rfl)) (hres _ _ _), hvars _, rfl, ?_, ?_⟩, ?_⟩
  ·rw [hrt] at h1 h2
   match j, h1 with
   | 0, h1 =>
    obtain rfl : tb = t := by simpa using h1
    obtain rfl : Value.bool true = r := by simpa [Value.resultList] using h2
    exact okWide_bool_mk htb true
  ·intro b off hp
   have hin : MemPlace.cell b off ∈ before := by simpa using hp
   rw [hb.frozen (hlt _ hin)]
   exact hz b off hin
  ·intro ha
   have := hn ha
   simpa using this
  ·intro p hp _
   simpa using hp
end

section
variable {H : Type} {enc : TypeId × Value → H} {P : Program} {w : World} {base : Nat} {spare : Nat → Bool} {held : Bool}

theorem flat_get' {α : Type} (f : α → List Value) (sz : Nat) (hz : 0 < sz) : ∀ (l : List α) (i : Nat) (v : Value), (∀ x ∈ l, (f x).length = sz) → (l.flatMap f)[i]? = some v → ∃ x, l[i / sz]? = some x ∧ (f x)[i % sz]? = some v
 | [], i, v, _, h => by simp at h
 | y :: l, i, v, hs, h => by
  have hy := hs y (by simp)
  rw [List.flatMap_cons] at h
  rcases Nat.lt_or_ge i sz with hlt | hge
  ·rw [List.getElem?_append_left (by omega)] at h
   exact ⟨y, by rw [Nat.div_eq_of_lt hlt]; rfl, by rw [Nat.mod_eq_of_lt hlt]; exact h⟩
  ·rw [List.getElem?_append_right (by omega), hy] at h
   obtain ⟨x, h1, h2⟩ := flat_get' f sz hz l (i - sz) v (fun z hz' => hs z (by simp [hz'])) h
   refine ⟨x, ?_, by rw [Nat.mod_eq_sub_mod hge]; exact h2⟩
   rw [Nat.div_eq_sub_div hz hge, List.getElem?_cons_succ]; exact h1

end
end Go.Mine
namespace Go.Mine
open Go.RowKit Go.WideShapes Go.ChangeShapes Go.Deep Go.ChangeAt

section
variable {H : Type} {enc : TypeId × Value → H} {P : Program} {w : World} {base : Nat} {spare : Nat → Bool} {held : Bool}
theorem u8_nat {n : Int} (h : (Lit.int .u8 n).wf = true) : ∃ m : Nat, n = m ∧ m < 256 := by
 simp only [Lit.wf, Bool.and_eq_true, decide_eq_true_eq] at h
 have h1 : (0 : Int) ≤ n := h.1
 have h2 : n ≤ 255 := h.2
 exact ⟨n.toNat, by omega, by omega⟩
end
end Go.Mine
namespace Go.Mine
open Go.RowKit Go.WideShapes Go.ChangeShapes Go.Deep Go.ChangeAt

def ic (n : Int) : List Value := [.int .i64 n]
def nI : Value → Int | .int _ q => q | _ => 0
abbrev Hd := Option Addr × Nat × List Int
def hc (e : Hd) : List Value := [.slice e.1 e.2.2.length e.2.1]
def Rel (w : World) (A : Option Addr) (c : Nat) (ls : List (List Int)) : Prop := ∃ es : List Hd, es.map (fun e => e.2.2) = ls ∧ Sl hc 1 w A c es ∧ ∀ e ∈ es, Sl ic 1 w e.1 e.2.1 e.2.2
section
variable {w w' : World} {A : Option Addr} {c : Nat} {ls : List (List Int)}
theorem Rel.bel (h : Rel w A c ls) (hb : Below w.heap.size w w') : Rel w' A c ls := by obtain ⟨es, e1, e2, e3⟩ := h; exact ⟨es, e1, e2.bel hb, fun e he => (e3 e he).bel hb⟩
theorem Rel.alloc (h : Rel w A c ls) (o : Obj) : Rel (w.alloc o) A c ls := h.bel ((Below.refl _ _).alloc (Nat.le_refl _) _)
theorem Rel.le (h : Rel w A c ls) : ls.length ≤ c := by obtain ⟨es, rfl, e2, e3⟩ := h; simpa using e2.le
theorem Rel.max (h : Rel w A c ls) : c ≤ 9223372036854775807 := by obtain ⟨es, rfl, e2, e3⟩ := h; exact e2.max
theorem Rel.nil (hc : c ≤ 9223372036854775807) : Rel w A c [] := ⟨[], rfl, Sl.nil hc, by simp⟩
theorem Rel.at_ (h : Rel w A c ls) {k : Nat} (hk : k < ls.length) : ∃ (l : List Int) (b off : Nat) (B : Option Addr) (d : Nat), ls[k]? = some l ∧ ls.drop k = l :: ls.drop (k + 1) ∧ A = some ⟨b, off, none⟩ ∧ b < w.heap.size ∧
  w.cell? ⟨b, off + k, none⟩ = some (.slice B l.length d) ∧ Sl ic 1 w B d l := by
 obtain ⟨es, rfl, e2, e3⟩ := h
 have hk' : k < es.length := by simpa using hk
 obtain ⟨x, b, off, hx, hd, rfl, hb, hc⟩ := e2.at_ hk'
 refine ⟨x.2.2, b, off, x.1, x.2.1, by rw [List.getElem?_map, hx]; rfl, by rw [← List.map_drop, hd, List.map_cons, List.map_drop], rfl, hb, ?_, e3 x (List.mem_of_getElem? hx)⟩
 have := hc 0 _ rfl
 simpa using this
theorem Sl.ic_at {l : List Int} (h : Sl ic 1 w A c l) {k : Nat} (hk : k < l.length) : ∃ (x : Int) (b off : Nat), l[k]? = some x ∧ l.drop k = x :: l.drop (k + 1) ∧ A = some ⟨b, off, none⟩ ∧ b < w.heap.size ∧ w.cell? ⟨b, off + k, none⟩ = some (.int .i64 x) := by
 obtain ⟨x, b, off, hx, hd, rfl, hb, hc⟩ := h.at_ hk
 exact ⟨x, b, off, hx, hd, rfl, hb, by simpa using hc 0 _ rfl⟩
end
section
variable {H : Type} {enc : TypeId × Value → H} {P : Program} {w : World} {base : Nat} {held : Bool}
theorem open_one {α : Type} {t e : TypeId} {fuel : Nat} {cs : List Value} {x : DataW H × List MemPlace} (g : α → Value) (Q : α → Prop) (ht : P.underlying t = some (.slice e)) (hC : P.cellsOf e = 1)
  (hel : ∀ n u z, DataW.trod enc P w base (fun _ => true) held n e [u] = some z → ∃ y, u = g y ∧ Q y) (h : DataW.trod enc P w base (fun _ => true) held fuel t cs = some x) :
  ∃ (A : Option Addr) (c : Nat) (l : List α), cs = [.slice A l.length c] ∧ Sl (fun y => [g y]) 1 w A c l ∧ ∀ y ∈ l, Q y := by
 rcases open_slice1 ht hC h with ⟨rfl, _⟩ | ⟨a, len, cap, m, n, V, D, Pl, rfl, hb, hl, hm, hmm, hx, hi⟩
 ·exact ⟨none, 0, [], rfl, Sl.nil (by omega), by simp⟩
 ·have hmc : m = cap := by simpa using hmm
  have key : ∀ k, k ≤ len → ∃ l : List α, l.length = k ∧ (∀ y ∈ l, Q y) ∧ ∀ i y, l[i]? = some y → w.cell? (a.add i) = some (g y) := by
   intro k
   induction k with
   | zero => exact fun _ => ⟨[], rfl, by simp, by simp⟩
   | succ k ih =>
    intro hk
    obtain ⟨l, h1, h2, h3⟩ := ih (by omega)
    obtain ⟨c1, c2⟩ := hi k (by omega)
    obtain ⟨y, e1, e2⟩ := hel _ _ _ c2
    refine ⟨l ++ [y], by simp [h1], fun z hz => ?_, fun i z hz => ?_⟩
    ·rcases List.mem_append.1 hz with hz | hz
     ·exact h2 z hz
     ·simp at hz; subst hz; exact e2
    ·by_cases hil : i < l.length
     ·rw [List.getElem?_append_left hil] at hz; exact h3 i z hz
     ·rw [List.getElem?_append_right (by omega)] at hz
      have : i = l.length := by
       rcases Nat.lt_or_ge (i - l.length) 1 with h | h
       ·omega
       ·rw [List.getElem?_eq_none (by simpa using h)] at hz; cases hz
      subst this
      simp at hz; subst hz
      rw [h1, c1, e1]
  obtain ⟨l, l1, l2, l3⟩ := key len (Nat.le_refl _)
  subst l1
  refine ⟨some a, cap, l, rfl, ⟨hl, by simpa [maxLen] using hm, fun _ _ => rfl, fun hne => ?_⟩, l2⟩
  have hpos := List.length_pos_iff.2 hne
  have hc0 := l3 0 _ (List.getElem?_eq_getElem hpos)
  have e0 : a.add 0 = a := by simp [Addr.add]
  rw [e0] at hc0
  have hspot := World.cell?_spot hc0
  obtain ⟨b, off, sp⟩ := a
  dsimp only at hspot
  subst hspot
  have hbl : b < w.heap.size := by
   rcases Nat.lt_or_ge b w.heap.size with h | h
   ·exact h
   ·simp [World.cell?, Array.getElem?_eq_none h] at hc0
  refine ⟨b, off, rfl, hbl, fun i v hv => ?_⟩
  have hfm : l.flatMap (fun y => [g y]) = l.map g := by rw [List.map_eq_flatMap]
  rw [hfm, List.getElem?_map] at hv
  obtain ⟨y, hy, rfl⟩ := Option.map_eq_some_iff.1 hv
  have := l3 i y hy
  rwa [Go.WideShapes.add_plain] at this
end
end Go.Mine
namespace Go.Mine
open Go.RowKit

theorem wpIn_range1 {α : Type} {P : Program} {n : Nat} {g : Operand} {p : Tmp} {assign body : Code} {Q : Exit → Act → World → Prop} {a : Act} {w : World}
  {gf : Nat} {lb : Array Value} (hg : a.eval g = .func (.func gf) #[] lb) (eg : ∀ args w, (callFunc gf args).run P w = .ok (.enter gf args) w)
  (enc : α → Value) {xs : List α} {R : Nat → Prop} {w0 : World} (hit : Iter P gf lb (xs.map fun x => #[enc x]) R w0) (hw0 : w0.heap.size ≤ w.heap.size) (hR : ∀ b, R b → b < w0.heap.size ∧ w.heap[b]? = w0.heap[b]?)
  (s : Tmp) (I : Nat → (Nat → Prop) → World → Prop) (Ix : Code → (Nat → Prop) → World → Prop) (hI : Stable I) (hIx : Stable Ix) (h0 : I 0 (fun _ => False) w)
  (hassign : ∀ (l : Nat) (v : Value) (W : World) (K : Act → World → Prop), K { tmps := (a.tmps.setIfInBounds p v).setIfInBounds s v, defers := [] } W →
   assign.wpIn (Fence.wide.inRound l) (n - 1 - 1) P (Exit.then K (fun _ _ _ => False)) { tmps := a.tmps.setIfInBounds p v, defers := [] } W)
  (hbody : ∀ (l k : Nat) (x : α) (O : Nat → Prop) (W : World), xs[k]? = some x → I k O W → (∀ b, O b → w.heap.size ≤ b ∧ b < W.heap.size) → w.heap.size ≤ W.heap.size →
   body.wpIn (Fence.wide.inRound l) (n - 1 - 1) P (rpost I Ix k O R W) { tmps := (a.tmps.setIfInBounds p (enc x)).setIfInBounds s (enc x), defers := [] } W)
  (hdone : ∀ (O : Nat → Prop) (W : World), I xs.length O W → (∀ b, O b → w.heap.size ≤ b ∧ b < W.heap.size) → W.heap[w.heap.size]? = some (.deferred (some [])) → O w.heap.size → w.heap.size ≤ W.heap.size →
   Q .normal { a with defers := { target := .collected w.heap.size, args := #[] } :: a.defers } W)
  (hstop : ∀ (c : Code) (O : Nat → Prop) (W : World), Ix c O W → (∀ b, O b → w.heap.size ≤ b ∧ b < W.heap.size) → W.heap[w.heap.size]? = some (.deferred (some [])) → O w.heap.size → w.heap.size ≤ W.heap.size →
   c.wpIn Fence.wide n P Q { a with defers := { target := .collected w.heap.size, args := #[] } :: a.defers } W) :
  (Code.rangeFunc g #[p] assign body).wpIn Fence.wide n P Q a w :=
 wpIn_range hg eg hit hw0 hR (fun x hx => by obtain ⟨y, _, rfl⟩ := List.mem_map.1 hx; rfl) I Ix hI hIx h0
  (fun x => { tmps := (a.tmps.setIfInBounds p (x.getD 0 undef)).setIfInBounds s (x.getD 0 undef), defers := [] })
  (fun l x W K hx hK => by obtain ⟨y, _, rfl⟩ := List.mem_map.1 hx; have := hassign l (enc y) W K hK; simpa using this)
  (fun l k x O W hx hi hO hz => by
   rw [List.getElem?_map] at hx
   obtain ⟨y, hy, rfl⟩ := Option.map_eq_some_iff.1 hx
   exact hbody l k y O W hy hi hO hz)
  (fun O W hi => hdone O W (by simpa using hi)) hstop

theorem drop_of_get {α : Type} {l : List α} {k : Nat} {x : α} (h : l[k]? = some x) : l.drop k = x :: l.drop (k + 1) := by
 obtain ⟨hlt, rfl⟩ := List.getElem?_eq_some_iff.1 h
 exact List.drop_eq_getElem_cons hlt
theorem take_of_get {α : Type} {l : List α} {k : Nat} {x : α} (h : l[k]? = some x) : l.take (k + 1) = l.take k ++ [x] := by
 rw [List.take_add_one, h]; rfl
theorem lt_of_get {α : Type} {l : List α} {k : Nat} {x : α} (h : l[k]? = some x) : k < l.length := (List.getElem?_eq_some_iff.1 h).1
theorem O_step {O O' : Nat → Prop} {W W' : World} {B : Nat} (s : IStep O O' W W') (h : ∀ b, O b → B ≤ b) (hB : B ≤ W.heap.size) : ∀ b, O' b → B ≤ b := fun b hb => by
 rcases (s.owns b).1 hb with h1 | h1
 ·exact h b h1
 ·omega
def One (w : World) (b : Nat) (v : Value) : Prop := ∃ t, w.heap[b]? = some (.cells #[v] t (0, 0))
section
variable {w : World} {b a : Nat} {v u : Value}
end
end Go.Mine
namespace Go.Mine
open Go.RowKit
theorem wpListIn_append {F : Fence} {n : Nat} {P : Program} {w : World} {ops : Array Oper} {rest : List Oper} {o : Oper} {a : Act} {Q : Exit → Act → World → Prop} (hg : o.guard = none) (s x : Operand) (t : TypeId)
  (hop : o.op = Op.call { callee := Callee.builtin Builtin.append, args := #[s, x], argTypes := #[t, t] }) {v u : Value} (hs : a.eval s = v) (hx : a.eval x = u) {G : Value → World → Prop}
  (hrun : ∃ v' w', (Builtin.append_ #[t, t] o.type #[v, u]).run P w = .ok v' w' ∧ G v' w') (hK : ∀ v' w', G v' w' → wpListIn F n P ops Q rest (a.put o.dst v') w') :
  wpListIn F n P ops Q (o :: rest) a w := by
 refine wpListIn_plain hg fun K hK' => ?_
 obtain ⟨v', w', hrun, hG⟩ := hrun
 unfold Oper.wpIn
 refine ⟨?_, ?_⟩
 ·simp [Oper.about, hop, resolve, Target.leads, Sem.run_pure]
 ·rw [Oper.semAt_plain F _ _ (by rw [hop]; intro c hc'; cases hc')]
  simp [execOp, hop, resolve, invoke, builtin, hs, hx, hrun, Result.andThen]
  exact hK' _ _ (hK v' w' hG)
section
variable {F : Fence} {n : Nat} {P : Program} {b : Frame} {a : Act} {k : List Item} {cs : List Frame} {w : World} {Q : Exit → Act → World → Prop}
end
structure Marks (B : Nat) (w : World) (ds : List Nat) : Prop where
 open_ : ∀ r ∈ ds, w.heap[r]? = some (.deferred (some []))
 nodup : ds.Nodup
 low : ∀ r ∈ ds, B ≤ r
theorem Marks.nil (B : Nat) (w : World) : Marks B w [] := ⟨by simp, by simp, by simp⟩
theorem Marks.lt {B : Nat} {w : World} {ds : List Nat} (h : Marks B w ds) {r : Nat} (hr : r ∈ ds) : r < w.heap.size := (Array.getElem?_eq_some_iff.1 (h.open_ r hr)).1
theorem Marks.keep {B : Nat} {w w' : World} {ds : List Nat} (h : Marks B w ds) (hk : ∀ r ∈ ds, w'.heap[r]? = w.heap[r]?) : Marks B w' ds := ⟨fun r hr => (hk r hr).trans (h.open_ r hr), h.nodup, h.low⟩
theorem Marks.bel {B : Nat} {w w' : World} {ds : List Nat} (h : Marks B w ds) (hb : Below w.heap.size w w') : Marks B w' ds := h.keep fun r hr => hb.block r (h.lt hr)
theorem Marks.cons {B : Nat} {w : World} {ds : List Nat} (h : Marks B w ds) {D : Nat} (hD : w.heap[D]? = some (.deferred (some []))) (hB : B ≤ D) (hn : D ∉ ds) : Marks B w (D :: ds) :=
 ⟨fun r hr => by rcases List.mem_cons.1 hr with rfl | hr; exact hD; exact h.open_ r hr, List.nodup_cons.2 ⟨hn, h.nodup⟩, fun r hr => by rcases List.mem_cons.1 hr with rfl | hr; exact hB; exact h.low r hr⟩
theorem leaves_all {F : Fence} {n : Nat} {P : Program} {fn : Func} {tmps : Array Value} {R : Ending → World → Prop} {B : Nat} {w : World} {ds : List Nat} (h : Marks B w ds)
  (hR : ∀ w', IStep (· ∈ ds) (· ∈ ds) w w' → w'.heap.size = w.heap.size → ∃ v, (results fn tmps).run P w' = .ok v w' ∧ R (.returned v) w') :
  LeavesInM F n P fn tmps R (marksOf ds) .returning w :=
 leaves_marks (by simp) ds w h.open_ h.nodup fun w' st hz => by
  obtain ⟨v, h1, h2⟩ := hR w' st hz
  exact ⟨v, h1, h2⟩
end Go.Mine
namespace Go.Mine
open Go.RowKit
theorem run_make_rowN {P : Program} (t e : TypeId) (i : TypeInfo) (z : Value) (ht : P.underlying t = some (.slice e)) (hi : P.info? e = some i) (hz : i.zero = some z)
  (kl kc : IntKind) (n c : Nat) (hnc : n ≤ c) (hbytes : i.bytes * c ≤ 281474976710656) (h63 : c ≤ 9223372036854775807) (w : World) :
  (Instr.makeSlice t (.int kl (n : Int)) (.int kc (c : Int))).run P w = .ok (.slice (some ⟨w.heap.size, 0, none⟩) n c) (w.alloc (.cells (madeCells z.cells (c * i.size)) e)) := by
 have hb : (i.bytes : Int) * (c : Int) ≤ 281474976710656 := by
  have h : ((i.bytes * c : Nat) : Int) ≤ 281474976710656 := by omega
  rwa [Int.natCast_mul] at h
 have hr := run_make (P := P) w t e i z ht hi hz kl kc n c (by omega) (by omega) hb (by omega)
 simp only [Int.toNat_natCast] at hr
 exact hr
structure MarksO (B : Nat) (O : Nat → Prop) (w : World) (ds : List Nat) : Prop where
 m : Marks B w ds
 no : ∀ r ∈ ds, ¬ O r
theorem flat_set {α : Type} {f : α → List Value} {sz : Nat} : ∀ {l : List α} {k j : Nat} {y y' : α} {u : Value}, (∀ x ∈ l, (f x).length = sz) → l[k]? = some y → j < sz → f y' = (f y).set j u → (l.set k y').flatMap f = (l.flatMap f).set (k * sz + j) u
 | [], k, j, y, y', u, _, hk, _, _ => by simp at hk
 | z :: l, 0, j, y, y', u, hs, hk, hj, hf => by
  simp at hk; subst hk
  have hz := hs z (by simp)
  simp only [List.set_cons_zero, List.flatMap_cons]
  rw [Nat.zero_mul, Nat.zero_add, List.set_append_left _ _ (by omega), hf]
 | z :: l, k + 1, j, y, y', u, hs, hk, hj, hf => by
  have hz := hs z (by simp)
  simp only [List.set_cons_succ, List.flatMap_cons]
  rw [flat_set (fun x hx => hs x (by simp [hx])) (by simpa using hk) hj hf, List.set_append_right _ _ (by rw [hz, Nat.succ_mul]; omega), hz]
  congr 2
  rw [Nat.succ_mul]; omega
theorem own_at {α : Type} {f : α → List Value} {sz : Nat} {e : TypeId} {w : World} {base : Nat} {v : Value} {l : List α} (h : OwnL f sz e w base v l) {k : Nat} {y : α} (hk : l[k]? = some y) :
  ∃ g cap, v = .slice (some ⟨g, 0, none⟩) l.length cap ∧ base ≤ g ∧ g < w.heap.size ∧ l.length ≤ cap ∧ cap ≤ 9223372036854775807 ∧ (∀ j, w.frozen? ⟨g, j, none⟩ = false) ∧ (∀ j u, (f y)[j]? = some u → w.cell? ⟨g, k * sz + j, none⟩ = some u) ∧
   ∀ (j : Nat) (u : Value) (y' : α) (w' : World), w'.heap[g]? = (w.setCell ⟨g, k * sz + j, none⟩ u).heap[g]? → j < sz → f y' = (f y).set j u → OwnL f sz e w' base v (l.set k y') := by
 have hkl : k < l.length := (List.getElem?_eq_some_iff.1 hk).1
 obtain ⟨⟨hl, h1⟩, hs⟩ := h
 rcases h1 with ⟨rfl, hn⟩ | ⟨g, cap, cur, rfl, hg, hh, hn, hc, hz, ht⟩
 ·omega
 ·have hsy := hs y (List.mem_of_getElem? hk)
  refine ⟨g, cap, rfl, hg, (Array.getElem?_eq_some_iff.1 hh).1, hn, by simpa [maxLen] using hc, fun j => by simp [World.frozen?, hh], fun j u hu => ?_, fun j u y' w' hw' hj hf => ?_⟩
  ·have hju : j < sz := by rw [← hsy]; exact (List.getElem?_eq_some_iff.1 hu).1
   have hfg := flat_get f sz l k j y u hs hk hu
   have hlt : k * sz + j < l.length * sz := by have := Nat.mul_le_mul_right sz (show k + 1 ≤ l.length from hkl); rw [Nat.succ_mul] at this; omega
   rw [← ht, List.getElem?_take_of_lt hlt] at hfg
   simp only [World.cell?, hh]
   simpa using hfg
  ·rw [heap_set_at hh] at hw'
   have hfl : ((l.set k y').flatMap f).length = l.length * sz := by rw [flat_set hs hk hj hf]; simpa using hl
   refine ⟨⟨by rw [hfl]; simp, .inr ⟨g, cap, _, by simp, hg, hw', by simpa using hn, hc, by simpa using hz, ?_⟩⟩, ?_⟩
   ·rw [flat_set hs hk hj hf, ← ht, Array.toList_setIfInBounds, List.length_set, List.take_set]
   ·intro x hx
    rcases List.mem_or_eq_of_mem_set hx with hx | rfl
    ·exact hs x hx
    ·rw [hf]; simp [hsy]
end Go.Mine
namespace Go.Mine.C
abbrev Str := ByteArray
structure PartM where
 cat : Str
 catNo : Int
 text : Str
structure GiveM where
 part : Int
 text : Str
structure RuleM where
 cat : Str
 catNo : Int
 parts : List PartM
 gives : List GiveM
 cost : Int
structure ItemM where
 cat : Int
 from_ : Int
 until_ : Int
 cost : Int
 target : List Str
 term : Int
structure TargM where
 text : Str
 deps : List Int
 term : Int
inductive Tree where
 | leaf (item : Nat) (f u : Int)
 | node (rule : Nat) (f u : Int) (kids : List Tree)
def PartM.isCat (p : PartM) : Bool := decide (p.text.size = 0)
def span (f u : Int) : List Int := (List.range (u - f).toNat).map fun k : Nat => f + (k : Int)
theorem span_mem {f u x : Int} : x ∈ span f u ↔ f ≤ x ∧ x < u := by
 unfold span
 rw [List.mem_map]
 constructor
 ·rintro ⟨k, hk, rfl⟩
  have := List.mem_range.1 hk
  omega
 ·rintro ⟨h1, h2⟩
  exact ⟨(x - f).toNat, List.mem_range.2 (by omega), by omega⟩
def insD (l : List Int) (x : Int) : List Int := match l with
 | [] => [x]
 | y :: r => if x < y then x :: y :: r else if x = y then y :: r else y :: insD r x
def norm (l : List Int) : List Int := l.foldl insD []
theorem insD_mem : ∀ (l : List Int) (x z : Int), z ∈ insD l x ↔ z = x ∨ z ∈ l
 | [], x, z => by simp [insD]
 | y :: r, x, z => by
  unfold insD
  split
  ·simp
  ·split
   ·rename_i h; subst h; simp
   ·rw [List.mem_cons, insD_mem r x z, List.mem_cons]
    constructor
    ·rintro (h | h | h)
     ·exact .inr (.inl h)
     ·exact .inl h
     ·exact .inr (.inr h)
    ·rintro (h | h | h)
     ·exact .inr (.inl h)
     ·exact .inl h
     ·exact .inr (.inr h)
theorem insD_inc : ∀ {l : List Int} {x : Int}, l.Pairwise (· < ·) → (insD l x).Pairwise (· < ·)
 | [], x, _ => by simp [insD]
 | y :: r, x, h => by
  obtain ⟨h1, h2⟩ := List.pairwise_cons.1 h
  unfold insD
  split
  ·rename_i hx
   refine List.pairwise_cons.2 ⟨fun z hz => ?_, h⟩
   rcases List.mem_cons.1 hz with rfl | hz
   ·exact hx
   ·have := h1 z hz; omega
  ·split
   ·exact h
   ·rename_i hx hy
    refine List.pairwise_cons.2 ⟨fun z hz => ?_, insD_inc h2⟩
    rcases (insD_mem r x z).1 hz with rfl | hz
    ·omega
    ·exact h1 z hz
theorem norm_go : ∀ (l acc : List Int), acc.Pairwise (· < ·) → (l.foldl insD acc).Pairwise (· < ·) ∧ ∀ z, z ∈ l.foldl insD acc ↔ z ∈ l ∨ z ∈ acc
 | [], acc, h => ⟨h, by simp⟩
 | x :: l, acc, h => by
  obtain ⟨h1, h2⟩ := norm_go l (insD acc x) (insD_inc h)
  refine ⟨h1, fun z => ?_⟩
  rw [List.foldl_cons, h2 z, insD_mem, List.mem_cons]
  constructor
  ·rintro (h | h | h)
   ·exact .inl (.inr h)
   ·exact .inl (.inl h)
   ·exact .inr h
  ·rintro ((h | h) | h)
   ·exact .inr (.inl h)
   ·exact .inl h
   ·exact .inr (.inr h)
theorem norm_inc (l : List Int) : (norm l).Pairwise (· < ·) := (norm_go l [] .nil).1
theorem norm_mem (l : List Int) (z : Int) : z ∈ norm l ↔ z ∈ l := by
 have := (norm_go l [] .nil).2 z
 simpa [norm] using this
def targ (text : Str) (deps above : List Int) (term : Int) : TargM := ⟨text, norm (deps ++ above), term⟩
def litsGo : List PartM → List Tree → Int → List Int
 | [], _, _ => []
 | p :: ps, ks, i => if p.isCat = true then (match ks with
   | [] => []
   | k :: ks => litsGo ps ks (untilT k)) else i :: litsGo ps ks (i + 1)
 where untilT : Tree → Int
  | .leaf _ _ u => u
  | .node _ _ u _ => u
def kidAt (ps : List PartM) (ks : List Tree) (i : Nat) : Option Tree := ks[(ps.take i).countP PartM.isCat]?
def walkF (rules : List RuleM) (items : List ItemM) : Nat → Tree → List Int → List TargM
 | 0, _, _ => []
 | _ + 1, .leaf i _ _, above => match items[i]? with
  | none => []
  | some x => x.target.map fun s => targ s (span x.from_ x.until_) above x.term
 | n + 1, .node i f u ks, above => match rules[i]? with
  | none => []
  | some r => r.gives.flatMap fun y => if y.text.size = 0 then (match kidAt r.parts ks y.part.toNat with
    | none => []
    | some k => walkF rules items n k (above ++ litsGo r.parts ks f)) else [targ y.text (span f u) above (-1)]
structure RuleOk (r : RuleM) : Prop where
 gives : r.gives ≠ []
 parts : r.parts ≠ []
 few : r.gives.length ≤ 8
 once : ((r.gives.filter fun y => decide (y.text.size = 0)).map fun y => y.part).Nodup
 part : ∀ y ∈ r.gives, y.text.size = 0 → 0 ≤ y.part ∧ ∃ p, r.parts[y.part.toNat]? = some p ∧ p.isCat = true
 each : ∀ (i : Nat) (p : PartM), r.parts[i]? = some p → p.isCat = true → ∃ y ∈ r.gives, y.text.size = 0 ∧ y.part = (i : Int)
mutual
inductive WF (rules : List RuleM) (items : List ItemM) : Nat → Tree → Int → Int → Int → Prop where
 | leaf {n i : Nat} {x : ItemM} {cat f u : Int} (h : items[i]? = some x) (hc : x.cat = cat) (hf : x.from_ = f) (hu : x.until_ = u) (hfu : f < u) (ht : x.target ≠ []) : WF rules items (n + 1) (.leaf i f u) cat f u
 | node {n i : Nat} {r : RuleM} {cat f u : Int} {ks : List Tree} (h : rules[i]? = some r) (hc : r.catNo = cat) (hr : RuleOk r) (hk : Cov rules items n r.parts ks f u) : WF rules items (n + 1) (.node i f u ks) cat f u
inductive Cov (rules : List RuleM) (items : List ItemM) : Nat → List PartM → List Tree → Int → Int → Prop where
 | nil {n : Nat} {u : Int} : Cov rules items n [] [] u u
 | text {n : Nat} {p : PartM} {ps : List PartM} {ks : List Tree} {f u : Int} (hp : p.isCat = false) (h : Cov rules items n ps ks (f + 1) u) : Cov rules items n (p :: ps) ks f u
 | cat {n : Nat} {p : PartM} {ps : List PartM} {k : Tree} {ks : List Tree} {f m u : Int} (hp : p.isCat = true) (hk : WF rules items n k p.catNo f m) (h : Cov rules items n ps ks m u) : Cov rules items n (p :: ps) (k :: ks) f u
end
end Go.Mine.C

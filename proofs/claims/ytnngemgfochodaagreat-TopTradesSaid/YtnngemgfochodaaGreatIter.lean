/-
  A range over a function, by a contract of the iterator's that names the very list that it yields ('Iter'), and one law for the caller ('wpIn_range').
  'O': the blocks that the iterator has laid since it was called (the loop's own record among them): the caller's rounds leave them be; the iterator turns no other.
-/
import Derived.RangeFuncNested
import Derived.RangeFuncBound
import Derived.RangeFuncCalls
import Derived.RangeFuncLeaves
import Derived.Below
namespace Go.Mine
open Go.RowKit

structure IStep (O O' : Nat → Prop) (W W' : World) : Prop where
  os : W'.os = W.os
  tape : W'.tape = W.tape
  output : W'.output = W.output
  size : W.heap.size ≤ W'.heap.size
  keep : ∀ b, b < W.heap.size → ¬ O b → W'.heap[b]? = W.heap[b]?
  owns : ∀ b, O' b ↔ (O b ∨ (W.heap.size ≤ b ∧ b < W'.heap.size))

def Stable {β : Type} (J : β → (Nat → Prop) → World → Prop) : Prop := ∀ s O O' W W', J s O W → IStep O O' W W' → J s O' W'

structure Kept (R : Nat → Prop) (W W' : World) : Prop where
  os : W'.os = W.os
  tape : W'.tape = W.tape
  output : W'.output = W.output
  size : W.heap.size ≤ W'.heap.size
  keep : ∀ b, b < W.heap.size → R b → W'.heap[b]? = W.heap[b]?

def Iter (P : Program) (g : Nat) (lb : Array Value) (xs : List (Array Value)) (R : Nat → Prop) (w0 : World) : Prop :=
  ∀ (n l : Nat) (J : Nat → (Nat → Prop) → World → Prop) (Jx : Unit → (Nat → Prop) → World → Prop) (W : World),
    w0.heap.size ≤ W.heap.size → (∀ b, R b → b < w0.heap.size ∧ W.heap[b]? = w0.heap[b]?) → Stable J → Stable Jx →
    (∀ k x O W1, xs[k]? = some x → J k O W1 → (∀ b, O b → W.heap.size ≤ b ∧ b < W1.heap.size) → W.heap.size ≤ W1.heap.size →
      YieldAt Fence.wide (n - 1) P l x W1 fun e W' => Kept (fun b => O b ∨ R b) W1 W' ∧
        ((e = .returned (.bool true) ∧ J (k + 1) O W') ∨ (e = .returned (.bool false) ∧ Jx () O W'))) →
    J 0 (fun _ => False) W →
    CallsIn Fence.wide n P g (#[.func (.yield l) #[] #[]] ++ lb) W fun e W' => (∃ v, e = .returned v) ∧
      ∃ O, (∀ b, O b → W.heap.size ≤ b ∧ b < W'.heap.size) ∧ W.heap.size ≤ W'.heap.size ∧ (J xs.length O W' ∨ Jx () O W')

theorem IStep.refl (O : Nat → Prop) (W : World) : IStep O O W W := ⟨rfl, rfl, rfl, Nat.le_refl _, fun _ _ _ => rfl, fun b => by constructor; exact .inl; rintro (h | h); exact h; omega⟩
theorem IStep.putObj {O : Nat → Prop} (W : World) (r : Nat) (o : Obj) (h : O r) : IStep O O W (W.putObj r o) :=
  ⟨rfl, rfl, rfl, by simp, fun b _ hb => World.putObj_heap_other (fun e => hb (e ▸ h)), fun b => by simp only [World.putObj_size]; constructor; exact .inl; rintro (h | h); exact h; omega⟩
theorem IStep.alloc {O : Nat → Prop} (W : World) (o : Obj) : IStep O (fun b => O b ∨ b = W.heap.size) W (W.alloc o) :=
  ⟨rfl, rfl, rfl, by simp, fun b hb _ => Below.heap_alloc W o b hb, fun b => by simp only [World.size_alloc]; constructor; (rintro (h | h); exact .inl h; exact .inr (by omega)); (rintro (h | h); exact .inl h; exact .inr (by omega))⟩
theorem IStep.drew {O O' : Nat → Prop} {W W' : World} (h : IStep O O' W W') : IStep O O' W W'.drew := ⟨h.os, h.tape, h.output, h.size, h.keep, h.owns⟩
theorem IStep.setCell {O : Nat → Prop} (W : World) (a : Addr) (v : Value) (h : O a.block) : IStep O O W (W.setCell a v) :=
  ⟨rfl, rfl, rfl, by simp [World.setCell], fun b _ hb => Below.heap_setCell _ _ _ _ (fun e => hb (e ▸ h)), fun b => by
    have : (W.setCell a v).heap.size = W.heap.size := by simp [World.setCell]
    rw [this]; constructor; exact .inl; rintro (h | h); exact h; omega⟩
theorem IStep.trans {O O' O'' : Nat → Prop} {A B C : World} (h : IStep O O' A B) (k : IStep O' O'' B C) : IStep O O'' A C :=
  ⟨k.os.trans h.os, k.tape.trans h.tape, k.output.trans h.output, Nat.le_trans h.size k.size, fun b hb hO => (k.keep b (Nat.lt_of_lt_of_le hb h.size) (fun hO' => by
      rcases (h.owns b).1 hO' with h1 | h1
      · exact hO h1
      · omega)).trans (h.keep b hb hO), fun b => by
    have h1 := h.size; have h2 := k.size
    rw [k.owns, h.owns]
    constructor
    · rintro ((h | h) | h)
      · exact .inl h
      · exact .inr (by omega)
      · exact .inr (by omega)
    · rintro (h | h)
      · exact .inl (.inl h)
      · by_cases hb : b < B.heap.size
        · exact .inl (.inr (by omega))
        · exact .inr (by omega)⟩
theorem IStep.of_below {O : Nat → Prop} {W W' : World} (h : Below W.heap.size W W') : IStep O (fun b => O b ∨ (W.heap.size ≤ b ∧ b < W'.heap.size)) W W' :=
  ⟨h.os, h.tape, h.output, h.size, fun b hb _ => h.block b hb, fun _ => Iff.rfl⟩

theorem Kept.refl (R : Nat → Prop) (W : World) : Kept R W W := ⟨rfl, rfl, rfl, Nat.le_refl _, fun _ _ _ => rfl⟩
theorem Kept.trans {R : Nat → Prop} {A B C : World} (h : Kept R A B) (k : Kept R B C) : Kept R A C :=
  ⟨k.os.trans h.os, k.tape.trans h.tape, k.output.trans h.output, Nat.le_trans h.size k.size, fun b hb hR => (k.keep b (Nat.lt_of_lt_of_le hb h.size) hR).trans (h.keep b hb hR)⟩
theorem Kept.of_below {R : Nat → Prop} {W W' : World} (h : Below W.heap.size W W') : Kept R W W' := ⟨h.os, h.tape, h.output, h.size, fun b hb _ => h.block b hb⟩
theorem Kept.alloc {R : Nat → Prop} {A W : World} (h : Kept R A W) (o : Obj) : Kept R A (W.alloc o) := h.trans ⟨rfl, rfl, rfl, by simp, fun b hb _ => Below.heap_alloc W o b hb⟩
theorem Kept.drew {R : Nat → Prop} {A W : World} (h : Kept R A W) : Kept R A W.drew := ⟨h.os, h.tape, h.output, h.size, h.keep⟩
theorem Kept.setCell {R : Nat → Prop} {A W : World} (h : Kept R A W) {a : Addr} (v : Value) (ha : ¬ R a.block) : Kept R A (W.setCell a v) :=
  h.trans ⟨rfl, rfl, rfl, by simp [World.setCell], fun b _ hR => Below.heap_setCell _ _ _ _ (fun e => ha (e ▸ hR))⟩
theorem Kept.grown {R : Nat → Prop} {A W W' : World} {row : Option Nat} (h : Kept R A W) (hg : W.grownBy W' row) (hr : ∀ k, row = some k → ¬ R k) : Kept R A W' :=
  h.trans ⟨hg.os, hg.tape, hg.output, hg.size, fun b hb hR => hg.block b hb (fun e => hr b e.symm hR)⟩
theorem Kept.mono {R R' : Nat → Prop} {A W : World} (h : Kept R A W) (hr : ∀ b, R' b → R b) : Kept R' A W := ⟨h.os, h.tape, h.output, h.size, fun b hb hR => h.keep b hb (hr b hR)⟩

/-- How the body of a round may be left. -/
def rpost (I : Nat → (Nat → Prop) → World → Prop) (Ix : Code → (Nat → Prop) → World → Prop) (k : Nat) (O R : Nat → Prop) (W : World) : Exit → Act → World → Prop
  | .normal, _, W' => Kept (fun b => O b ∨ R b) W W' ∧ I (k + 1) O W'
  | .ret, _, W' => Kept (fun b => O b ∨ R b) W W' ∧ Ix .ret O W'
  | .exit id, _, W' => Kept (fun b => O b ∨ R b) W W' ∧ Ix (.exit id) O W'
  | .goto t, _, W' => Kept (fun b => O b ∨ R b) W W' ∧ Ix (.goto t) O W'
  | .panic _, _, _ => False
  | .outgrown, _, _ => False

theorem wpIn_mono' {F : Fence} {n : Nat} {P : Program} {c : Code} {Q Q' : Exit → Act → World → Prop} {a : Act} {w : World} (h : c.wpIn F n P Q a w) (hq : ∀ e a w, Q e a w → Q' e a w) : c.wpIn F n P Q' a w :=
  wpIn_mono h hq

/-- THE STATEMENT, over an iterator that has its contract: general form (the assignment may lay blocks). -/
theorem wpIn_range_gen {P : Program} {n : Nat} {g : Operand} {ps : Array Tmp} {assign body : Code} {Q : Exit → Act → World → Prop} {a : Act} {w : World}
    {gf : Nat} {lb : Array Value} (hg : a.eval g = .func (.func gf) #[] lb) (eg : ∀ args w, (callFunc gf args).run P w = .ok (.enter gf args) w)
    {xs : List (Array Value)} {R : Nat → Prop} {w0 : World} (hit : Iter P gf lb xs R w0) (hw0 : w0.heap.size ≤ w.heap.size) (hR : ∀ b, R b → b < w0.heap.size ∧ w.heap[b]? = w0.heap[b]?)
    (hps : ∀ x, x ∈ xs → x.size = ps.size)
    (I : Nat → (Nat → Prop) → World → Prop) (Ix : Code → (Nat → Prop) → World → Prop) (hI : Stable I) (hIx : Stable Ix) (h0 : I 0 (fun _ => False) w)
    (hbody : ∀ (l k : Nat) (x : Array Value) (O : Nat → Prop) (W : World), xs[k]? = some x → I k O W → (∀ b, O b → w.heap.size ≤ b ∧ b < W.heap.size) → w.heap.size ≤ W.heap.size →
      assign.wpIn (Fence.wide.inRound l) (n - 1 - 1) P (Exit.then (fun a1 W1 => Kept (fun b => O b ∨ R b) W W1 ∧ ∀ W2, IStep O O W1 W2 → W2.heap.size = W1.heap.size →
          body.wpIn (Fence.wide.inRound l) (n - 1 - 1) P (rpost I Ix k O R W2) a1 W2) (fun _ _ _ => False))
        { tmps := (ps.zip x).foldl (fun t (p, v) => t.setIfInBounds p v) a.tmps, defers := [] } W)
    (hdone : ∀ (O : Nat → Prop) (W : World), I xs.length O W → (∀ b, O b → w.heap.size ≤ b ∧ b < W.heap.size) → W.heap[w.heap.size]? = some (.deferred (some [])) → O w.heap.size → w.heap.size ≤ W.heap.size →
      Q .normal { a with defers := { target := .collected w.heap.size, args := #[] } :: a.defers } W)
    (hstop : ∀ (c : Code) (O : Nat → Prop) (W : World), Ix c O W → (∀ b, O b → w.heap.size ≤ b ∧ b < W.heap.size) → W.heap[w.heap.size]? = some (.deferred (some [])) → O w.heap.size → w.heap.size ≤ W.heap.size →
      c.wpIn Fence.wide n P Q { a with defers := { target := .collected w.heap.size, args := #[] } :: a.defers } W) :
    (Code.rangeFunc g ps assign body).wpIn Fence.wide n P Q a w := by
  refine wpIn_rangeFunc ?_
  intro fn hfn
  obtain ⟨rec, hrec⟩ : ∃ rec : LoopState → Option Code → Loop, rec = fun st pe => { state := st, pending := pe, fn, tmps := a.tmps, params := ps, assign, body, defers := w.heap.size } := ⟨_, rfl⟩
  obtain ⟨W1, hW1⟩ : ∃ W1, (w.alloc (.deferred (some []))).alloc (.loop (rec .ready none)) = W1 := ⟨_, rfl⟩
  have hS1 : W1.heap.size = w.heap.size + 2 := by rw [← hW1]; simp
  have hL1 : W1.heap[w.heap.size + 1]? = some (.loop (rec .ready none)) := by
    rw [← hW1]; have := World.alloc_heap_new (w.alloc (.deferred (some []))) (.loop (rec .ready none)); rwa [World.size_alloc] at this
  have hK1 : W1.heap[w.heap.size]? = some (.deferred (some [])) := by
    rw [← hW1]; exact (Below.heap_alloc _ _ _ (by simp)).trans (World.alloc_heap_new w _)
  have hb1 : Below w.heap.size w W1 := by
    rw [← hW1]; exact ((Below.refl _ w).alloc (Nat.le_refl _) _).alloc (by simp) _
  let D := w.heap.size
  let E : (Nat → Prop) → Nat → Prop := fun O b => O b ∨ (b = w.heap.size ∨ b = w.heap.size + 1)
  have hI1 : I 0 (E fun _ => False) W1 := hI _ _ _ _ _ h0 ⟨hb1.os, hb1.tape, hb1.output, hb1.size, fun b hb _ => hb1.block b hb, fun b => by
    show (False ∨ _) ↔ _
    rw [hS1]; constructor
    · rintro (h | h); exact h.elim; exact .inr (by omega)
    · rintro (h | h); exact h.elim; exact .inr (by omega)⟩
  -- a step of the iterator's is one of the caller's
  have lift : ∀ {O O' : Nat → Prop} {A B : World}, IStep O O' A B → IStep (E O) (E O') A B := fun {O O' A B} h =>
    ⟨h.os, h.tape, h.output, h.size, fun b hb hO => h.keep b hb (fun h' => hO (.inl h')), fun b => by
      show (O' b ∨ _) ↔ ((O b ∨ _) ∨ _)
      rw [h.owns]
      constructor
      · rintro ((h | h) | h); exact .inl (.inl h); exact .inr h; exact .inl (.inr h)
      · rintro ((h | h) | h); exact .inl (.inl h); exact .inr h; exact .inl (.inr h)⟩
  have putl : ∀ {O : Nat → Prop} {A : World} (o : Obj), IStep (E O) (E O) A (A.putObj (w.heap.size + 1) o) := fun o => IStep.putObj _ _ o (.inr (.inr rfl))
  refine ⟨w.heap.size + 1, [{ target := .collected w.heap.size, args := #[] }], W1, { target := .fn (.func gf) lb, args := #[.func (.yield (w.heap.size + 1)) #[] #[]] }, W1, gf,
    #[.func (.yield (w.heap.size + 1)) #[] #[]] ++ lb, W1, ?_, ?_, ?_, ?_, fun h => by simp [Fence.wide] at h, ?_⟩
  · rw [← hW1, hrec]; exact run_enterLoop_outer _ _ _ _ _
  · simp only [resolve, hg]
    simp [go_sem]
  · intro f' _; trivial
  · simp [invoke, go_sem, eg]
  · refine (hit (n - 1) (w.heap.size + 1)
      (fun k O W => I k (E O) W ∧ W.heap[w.heap.size + 1]? = some (.loop (rec .ready none)) ∧ W.heap[w.heap.size]? = some (.deferred (some [])) ∧ (∀ b, O b → w.heap.size + 2 ≤ b) ∧ w.heap.size + 2 ≤ W.heap.size)
      (fun _ O W => ∃ c, Ix c (E O) W ∧ W.heap[w.heap.size + 1]? = some (.loop (rec .done (some c))) ∧ W.heap[w.heap.size]? = some (.deferred (some [])) ∧ (∀ b, O b → w.heap.size + 2 ≤ b) ∧ w.heap.size + 2 ≤ W.heap.size)
      W1 (Nat.le_trans hw0 hb1.size) (fun b hb => ⟨(hR b hb).1, (hb1.block b (Nat.lt_of_lt_of_le (hR b hb).1 hw0)).trans (hR b hb).2⟩) ?_ ?_ ?_ ?_).mono ?_
    · rintro k O O' A B ⟨hi, hl, hk, hO, hz⟩ st
      refine ⟨hI _ _ _ _ _ hi (lift st), (st.keep _ (by omega) (fun h => by have := hO _ h; omega)).trans hl, (st.keep _ (by omega) (fun h => by have := hO _ h; omega)).trans hk, fun b hb => ?_, Nat.le_trans hz st.size⟩
      rcases (st.owns b).1 hb with h | h
      · exact hO b h
      · omega
    · rintro u O O' A B ⟨c, hi, hl, hk, hO, hz⟩ st
      refine ⟨c, hIx _ _ _ _ _ hi (lift st), (st.keep _ (by omega) (fun h => by have := hO _ h; omega)).trans hl, (st.keep _ (by omega) (fun h => by have := hO _ h; omega)).trans hk, fun b hb => ?_, Nat.le_trans hz st.size⟩
      rcases (st.owns b).1 hb with h | h
      · exact hO b h
      · omega
    · -- one round
      rintro k x O W hx ⟨hi, hl, hk, hO, hz⟩ hOs hWs
      have hlt : w.heap.size + 1 < W.heap.size := by omega
      have hy := run_yield (P := P) (args := x) hl (by rw [hrec]; exact hps x (List.mem_of_getElem? hx))
      rw [hrec] at hy
      have hEO : ∀ b, E O b → w.heap.size ≤ b ∧ b < W.heap.size := by
        rintro b (h | h | h)
        · have := hOs b h; omega
        · omega
        · omega
      refine ⟨fn, _, assign, body, hy, roundIn_of_wpIn hfn (wpIn_mono (hbody (w.heap.size + 1) k x (E O) W hx hi hEO (by omega)) ?_)⟩
      rintro e a1 Wa hp
      cases e with
      | normal =>
        obtain ⟨hka, hbd⟩ := hp
        have hla : Wa.heap[w.heap.size + 1]? = some (.loop (rec .ready none)) := (hka.keep _ (by omega) (.inl (.inr (.inr rfl)))).trans hl
        have hda : Wa.heap[w.heap.size]? = some (.deferred (some [])) := (hka.keep _ (by omega) (.inl (.inr (.inl rfl)))).trans hk
        have hza := hka.size
        refine ⟨_, run_beginRound hla (by rw [hrec]), ?_⟩
        obtain ⟨W2, hW2⟩ : ∃ W2, Wa.putObj (w.heap.size + 1) (.loop { rec .ready none with state := .busy }) = W2 := ⟨_, rfl⟩
        have st2 : IStep (E O) (E O) Wa W2 := by rw [← hW2]; exact putl _
        have hl2 : W2.heap[w.heap.size + 1]? = some (.loop { rec .ready none with state := .busy }) := by rw [← hW2]; exact World.putObj_heap_same (by omega)
        have hk2 : W2.heap[w.heap.size]? = some (.deferred (some [])) := by rw [← hW2]; exact (World.putObj_heap_other (by omega)).trans hda
        have hz2 : W2.heap.size = Wa.heap.size := by rw [← hW2]; simp
        have hbody2 := hbd W2 st2 hz2
        rw [hW2]
        refine wpIn_mono hbody2 ?_
        -- from the record's state when the body is left to the round's end
        have fin : ∀ (jump : Option Code) (W3 : World), Kept (fun b => E O b ∨ R b) W2 W3 →
            (Instr.endRound (w.heap.size + 1) jump).run P W3 = .ok (.bool jump.isNone) (W3.putObj (w.heap.size + 1) (.loop (rec (if jump.isNone then .ready else .done) jump))) ∧
            (W3.putObj (w.heap.size + 1) (.loop (rec (if jump.isNone then .ready else .done) jump))).heap[w.heap.size + 1]? = some (.loop (rec (if jump.isNone then .ready else .done) jump)) ∧
            (W3.putObj (w.heap.size + 1) (.loop (rec (if jump.isNone then .ready else .done) jump))).heap[w.heap.size]? = some (.deferred (some [])) ∧
            Kept (fun b => O b ∨ R b) W (W3.putObj (w.heap.size + 1) (.loop (rec (if jump.isNone then .ready else .done) jump))) ∧ w.heap.size + 2 ≤ W3.heap.size := fun jump W3 hk3 => by
          have hl3 : W3.heap[w.heap.size + 1]? = some (.loop { rec .ready none with state := .busy }) := (hk3.keep _ (by omega) (.inl (.inr (.inr rfl)))).trans hl2
          have hd3 : W3.heap[w.heap.size]? = some (.deferred (some [])) := (hk3.keep _ (by omega) (.inl (.inr (.inl rfl)))).trans hk2
          have hz3 := hk3.size
          have hr := run_endRound (P := P) jump hl3
          rw [hrec] at hr ⊢
          refine ⟨hr, World.putObj_heap_same (by omega), (World.putObj_heap_other (by omega)).trans hd3, ?_, by omega⟩
          have hRl : ∀ b, O b ∨ R b → b ≠ w.heap.size + 1 := by
            rintro b (h | h) e
            · have := hO b h; omega
            · have := (hR b h).1; omega
          refine ⟨hk3.os.trans (st2.os.trans hka.os), hk3.tape.trans (st2.tape.trans hka.tape), hk3.output.trans (st2.output.trans hka.output), by simp; omega, fun b hb hRb => ?_⟩
          have hne := hRl b hRb
          have hRb' : E O b ∨ R b := by rcases hRb with h | h; exact .inl (.inl h); exact .inr h
          refine (World.putObj_heap_other hne).trans ((hk3.keep b (by omega) hRb').trans ?_)
          refine Eq.trans ?_ (hka.keep b hb hRb')
          rw [← hW2]; exact World.putObj_heap_other hne
        rintro e2 a3 W3 hp
        cases e2 with
        | normal =>
          obtain ⟨hk3, hi3⟩ := hp
          obtain ⟨hr, hl4, hk4, hK, hz3⟩ := fin none W3 hk3
          exact ⟨_, _, hr, hK, .inl ⟨rfl, hI _ _ _ _ _ hi3 (putl _), hl4, hk4, hO, by simp; omega⟩⟩
        | ret =>
          obtain ⟨hk3, hi3⟩ := hp
          obtain ⟨hr, hl4, hk4, hK, hz3⟩ := fin (some .ret) W3 hk3
          exact ⟨_, _, hr, hK, .inr ⟨rfl, .ret, hIx _ _ _ _ _ hi3 (putl _), hl4, hk4, hO, by simp; omega⟩⟩
        | exit id =>
          obtain ⟨hk3, hi3⟩ := hp
          obtain ⟨hr, hl4, hk4, hK, hz3⟩ := fin (some (.exit id)) W3 hk3
          exact ⟨_, _, hr, hK, .inr ⟨rfl, .exit id, hIx _ _ _ _ _ hi3 (putl _), hl4, hk4, hO, by simp; omega⟩⟩
        | goto t =>
          obtain ⟨hk3, hi3⟩ := hp
          obtain ⟨hr, hl4, hk4, hK, hz3⟩ := fin (some (.goto t)) W3 hk3
          exact ⟨_, _, hr, hK, .inr ⟨rfl, .goto t, hIx _ _ _ _ _ hi3 (putl _), hl4, hk4, hO, by simp; omega⟩⟩
        | panic ch => exact hp.elim
        | outgrown => exact hp.elim
      | exit id => exact hp.elim
      | goto t => exact hp.elim
      | ret => exact hp.elim
      | panic ch => exact hp.elim
      | outgrown => exact hp.elim
    · exact ⟨hI1, hL1, hK1, fun _ h => h.elim, by omega⟩
    · -- behind the iterator
      rintro e W2 ⟨⟨v, rfl⟩, O, hOs, hz, (⟨hi, hl, hk, hO, hz2⟩ | ⟨c, hi, hl, hk, hO, hz2⟩)⟩
      · have hEO : ∀ b, E O b → w.heap.size ≤ b ∧ b < (W2.putObj (w.heap.size + 1) (.loop { rec .ready none with state := .exhausted })).heap.size := by
          rintro b (h | h | h) <;> simp only [World.putObj_size]
          · have := hOs b h; omega
          · omega
          · omega
        exact ⟨none, _, by have := run_endLoop (P := P) hl (by rw [hrec]; simp); rw [hrec] at this; exact this,
          by have := hdone (E O) _ (hI _ _ _ _ _ hi (putl _)) hEO ((World.putObj_heap_other (by omega)).trans hk) (.inr (.inl rfl)) (by simp; omega); rw [hrec] at this; exact this⟩
      · have hEO : ∀ b, E O b → w.heap.size ≤ b ∧ b < (W2.putObj (w.heap.size + 1) (.loop { rec .done (some c) with state := .exhausted })).heap.size := by
          rintro b (h | h | h) <;> simp only [World.putObj_size]
          · have := hOs b h; omega
          · omega
          · omega
        exact ⟨some c, _, by have := run_endLoop (P := P) hl (by rw [hrec]; simp); rw [hrec] at this; exact this,
          by have := hstop c (E O) _ (hIx _ _ _ _ _ hi (putl _)) hEO ((World.putObj_heap_other (by omega)).trans hk) (.inr (.inl rfl)) (by simp; omega); rw [hrec] at this; exact this⟩

/-- The same where the assignment sets slots alone. -/
theorem wpIn_range {P : Program} {n : Nat} {g : Operand} {ps : Array Tmp} {assign body : Code} {Q : Exit → Act → World → Prop} {a : Act} {w : World}
    {gf : Nat} {lb : Array Value} (hg : a.eval g = .func (.func gf) #[] lb) (eg : ∀ args w, (callFunc gf args).run P w = .ok (.enter gf args) w)
    {xs : List (Array Value)} {R : Nat → Prop} {w0 : World} (hit : Iter P gf lb xs R w0) (hw0 : w0.heap.size ≤ w.heap.size) (hR : ∀ b, R b → b < w0.heap.size ∧ w.heap[b]? = w0.heap[b]?)
    (hps : ∀ x, x ∈ xs → x.size = ps.size)
    (I : Nat → (Nat → Prop) → World → Prop) (Ix : Code → (Nat → Prop) → World → Prop) (hI : Stable I) (hIx : Stable Ix) (h0 : I 0 (fun _ => False) w) (a₁ : Array Value → Act)
    (hassign : ∀ (l : Nat) (x : Array Value) (W : World) (K : Act → World → Prop), x ∈ xs → K (a₁ x) W →
      assign.wpIn (Fence.wide.inRound l) (n - 1 - 1) P (Exit.then K (fun _ _ _ => False)) { tmps := (ps.zip x).foldl (fun t (p, v) => t.setIfInBounds p v) a.tmps, defers := [] } W)
    (hbody : ∀ (l k : Nat) (x : Array Value) (O : Nat → Prop) (W : World), xs[k]? = some x → I k O W → (∀ b, O b → w.heap.size ≤ b ∧ b < W.heap.size) → w.heap.size ≤ W.heap.size →
      body.wpIn (Fence.wide.inRound l) (n - 1 - 1) P (rpost I Ix k O R W) (a₁ x) W)
    (hdone : ∀ (O : Nat → Prop) (W : World), I xs.length O W → (∀ b, O b → w.heap.size ≤ b ∧ b < W.heap.size) → W.heap[w.heap.size]? = some (.deferred (some [])) → O w.heap.size → w.heap.size ≤ W.heap.size →
      Q .normal { a with defers := { target := .collected w.heap.size, args := #[] } :: a.defers } W)
    (hstop : ∀ (c : Code) (O : Nat → Prop) (W : World), Ix c O W → (∀ b, O b → w.heap.size ≤ b ∧ b < W.heap.size) → W.heap[w.heap.size]? = some (.deferred (some [])) → O w.heap.size → w.heap.size ≤ W.heap.size →
      c.wpIn Fence.wide n P Q { a with defers := { target := .collected w.heap.size, args := #[] } :: a.defers } W) :
    (Code.rangeFunc g ps assign body).wpIn Fence.wide n P Q a w :=
  wpIn_range_gen hg eg hit hw0 hR hps I Ix hI hIx h0
    (fun l k x O W hx hi hO hz => hassign l x W _ (List.mem_of_getElem? hx) ⟨Kept.refl _ _, fun W2 st hz2 => hbody l k x O W2 hx (hI _ _ _ _ _ hi st) (fun b hb => by rw [hz2]; exact hO b hb) (by omega)⟩) hdone hstop

end Go.Mine

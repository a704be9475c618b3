/-
  A range over a function, in general: the iterator may own boxes from before ('O0'), may let go of blocks that it has laid (they are the caller's then), may hand over values that depend on memory ('Y'),
 and may end in a panic ('ch').
  Rows of the call's own that an iterator leaves alone; what stands when the loop's record is turned.
  A region that draws its order, in a fence, by an invariant: whatever operation comes up keeps it.
  A region that draws its order, in a fence, by what is shown of it outside of one.
  A map with keys of the kind int, whatever its elements: what it holds, key by key.
  A literal map's entry, at the operation; the set of numbers as a map.
  Maps whose keys are texts or structs, whatever their elements: what they hold, key by key; how many.
-/
import Derived.Test.YtkfdafeonhnloaaGreatDoorGM1
import Derived.OrdersHeld
import Derived.Maps.OwnSet
import Derived.Maps.OwnOps
import Derived.Maps.Range
import Derived.Maps.RangeWalk
import Derived.Sort.KeysCollected
namespace Go.Mine
open Go.RowKit
structure XStep (O O' : Nat → Prop) (W W' : World) : Prop where
 os : W'.os = W.os
 tape : W'.tape = W.tape
 output : W'.output = W.output
 size : W.heap.size ≤ W'.heap.size
 keep : ∀ b, b < W.heap.size → ¬ O b → W'.heap[b]? = W.heap[b]?
 owns : ∀ b, O' b → (O b ∨ (W.heap.size ≤ b ∧ b < W'.heap.size))
def XStable {β : Type} (J : β → (Nat → Prop) → World → Prop) : Prop := ∀ s O O' W W', J s O W → XStep O O' W W' → J s O' W'
def IEnd (ch : Option (List PanicEntry)) (e : Ending) : Prop := match ch with | none => ∃ v, e = .returned v | some c => e = .panicked c
def NotCells (W : World) (b : Nat) : Prop := ∀ cs t f, W.heap[b]? ≠ some (.cells cs t f)
def IterG (P : Program) (g : Nat) (lb : Array Value) (N : Nat) (Y : Nat → Array Value → (Nat → Prop) → World → Prop) (ch : Option (List PanicEntry)) (O0 R : Nat → Prop) (w0 : World) : Prop :=
 ∀ (n l : Nat) (J : Nat → (Nat → Prop) → World → Prop) (Jx : Unit → (Nat → Prop) → World → Prop) (W : World),
  w0.heap.size ≤ W.heap.size → (∀ b, (O0 b ∨ R b) → b < w0.heap.size ∧ W.heap[b]? = w0.heap[b]?) → XStable J → XStable Jx →
  (∀ k x O W1, k < N → Y k x O W1 → J k O W1 → (∀ b, O b → (O0 b ∨ W.heap.size ≤ b) ∧ b < W1.heap.size) → W.heap.size ≤ W1.heap.size →
   YieldAt Fence.wide (n - 1) P l x W1 fun e W' => Kept (fun b => O b ∨ R b) W1 W' ∧
    ((e = .returned (.bool true) ∧ J (k + 1) O W') ∨ (e = .returned (.bool false) ∧ Jx () O W'))) →
  J 0 O0 W →
  CallsIn Fence.wide n P g (#[.func (.yield l) #[] #[]] ++ lb) W fun e W' =>
   ∃ O, (∀ b, O b → (O0 b ∨ W.heap.size ≤ b) ∧ b < W'.heap.size) ∧ W.heap.size ≤ W'.heap.size ∧ ((IEnd ch e ∧ J N O W') ∨ ((∃ v, e = .returned v) ∧ Jx () O W'))

theorem XStep.putObj {O : Nat → Prop} (W : World) (r : Nat) (o : Obj) (h : O r) : XStep O O W (W.putObj r o) :=
 ⟨rfl, rfl, rfl, by simp, fun b _ hb => World.putObj_heap_other (fun e => hb (e ▸ h)), fun b h => .inl h⟩
theorem XStep.drop {O O' : Nat → Prop} (W : World) (h : ∀ b, O' b → O b) : XStep O O' W W := ⟨rfl, rfl, rfl, Nat.le_refl _, fun _ _ _ => rfl, fun b hb => .inl (h b hb)⟩
theorem XStep.setCell {O : Nat → Prop} (W : World) (a : Addr) (v : Value) (h : O a.block) : XStep O O W (W.setCell a v) :=
 ⟨rfl, rfl, rfl, by simp [World.setCell], fun b _ hb => Below.heap_setCell _ _ _ _ (fun e => hb (e ▸ h)), fun b h => .inl h⟩
theorem XStep.trans {O O' O'' : Nat → Prop} {A B C : World} (h : XStep O O' A B) (k : XStep O' O'' B C) : XStep O O'' A C :=
 ⟨k.os.trans h.os, k.tape.trans h.tape, k.output.trans h.output, Nat.le_trans h.size k.size, fun b hb hO => (k.keep b (Nat.lt_of_lt_of_le hb h.size) (fun hO' => by
   rcases h.owns b hO' with h1 | h1
   ·exact hO h1
   ·omega)).trans (h.keep b hb hO), fun b hb => by
  have h1 := h.size; have h2 := k.size
  rcases k.owns b hb with h3 | h3
  ·rcases h.owns b h3 with h4 | h4
   ·exact .inl h4
   ·exact .inr (by omega)
  ·exact .inr (by omega)⟩
theorem XStep.of_below {O O' : Nat → Prop} {W W' : World} (h : Below W.heap.size W W') (ho : ∀ b, O' b → (O b ∨ (W.heap.size ≤ b ∧ b < W'.heap.size))) : XStep O O' W W' :=
 ⟨h.os, h.tape, h.output, h.size, fun b hb _ => h.block b hb, ho⟩
theorem XStep.bx {O O' : Nat → Prop} {W W' : World} {b : Nat} {t : TypeId} {v : Value} (h : Bx O W b t v) (s : XStep O O' W W') : Bx O' W' b t v :=
 ⟨fun h' => by rcases s.owns b h' with h1 | h1; exact h.no h1; have := h.lt; omega, (s.keep b h.lt h.no).trans h.at_⟩

theorem IterG.imp {P : Program} {g : Nat} {lb : Array Value} {N : Nat} {Y Y' : Nat → Array Value → (Nat → Prop) → World → Prop} {ch : Option (List PanicEntry)} {O0 R : Nat → Prop} {w0 : World} (h : IterG P g lb N Y ch O0 R w0)
  (hi : ∀ k x O W, Y k x O W → Y' k x O W) : IterG P g lb N Y' ch O0 R w0 :=
 fun n l J Jx W h1 h2 h3 h4 h5 h6 => h n l J Jx W h1 h2 h3 h4 (fun k x O W1 hk hY => h5 k x O W1 hk (hi k x O W1 hY)) h6
structure SlO {α : Type} (f : α → List Value) (sz : Nat) (O : Nat → Prop) (w : World) (A : Option Addr) (c : Nat) (l : List α) : Prop where
 sl : Sl f sz w A c l
 no : ∀ a, A = some a → l ≠ [] → ¬ O a.block
section
variable {α : Type} {f : α → List Value} {sz : Nat} {O O' : Nat → Prop} {w w' : World} {A : Option Addr} {c : Nat} {l : List α}
theorem Sl.keep (h : Sl f sz w A c l) (hk : ∀ a, A = some a → l ≠ [] → a.block < w.heap.size → w'.heap[a.block]? = w.heap[a.block]?) (hz : w.heap.size ≤ w'.heap.size) : Sl f sz w' A c l :=
 ⟨h.le, h.max, h.size, fun hn => by
  obtain ⟨b, off, rfl, hbw, hc⟩ := h.cells hn
  refine ⟨b, off, rfl, Nat.lt_of_lt_of_le hbw hz, fun i v hv => ?_⟩
  have := hc i v hv
  rw [← this]
  simp only [World.cell?, hk _ rfl hn hbw]⟩
theorem SlO.step (h : SlO f sz O w A c l) (s : XStep O O' w w') : SlO f sz O' w' A c l :=
 ⟨h.sl.keep (fun a ha hn hlt => s.keep _ hlt (h.no a ha hn)) s.size, fun a ha hn hO => by
  rcases s.owns _ hO with h1 | h1
  ·exact h.no a ha hn h1
  ·obtain ⟨b, off, e, hbw, _⟩ := h.sl.cells hn
   rw [ha] at e
   cases e
   dsimp only at h1
   omega⟩
theorem SlO.bel (h : SlO f sz O w A c l) (hb : Below w.heap.size w w') : SlO f sz O w' A c l := ⟨h.sl.bel hb, h.no⟩
theorem SlO.mono (h : SlO f sz O w A c l) (ho : ∀ b, O' b → O b) : SlO f sz O' w A c l := ⟨h.sl, fun a ha hn h' => h.no a ha hn (ho _ h')⟩
theorem SlO.more (h : SlO f sz O w A c l) (hsz : 0 < sz) (ho : ∀ b, O' b → O b ∨ NotCells w b) : SlO f sz O' w A c l :=
 ⟨h.sl, fun a ha hn h' => by
  rcases ho _ h' with h1 | h1
  ·exact h.no a ha hn h1
  ·obtain ⟨b, off, e, hbw, hc⟩ := h.sl.cells hn
   rw [ha] at e
   cases e
   obtain ⟨x, r, rfl⟩ := List.exists_cons_of_ne_nil hn
   have hx := h.sl.size x (by simp)
   match hfx : f x, hx with
   | v :: vs, _ =>
    have := hc 0 v (by rw [List.flatMap_cons, hfx]; rfl)
    simp only [Nat.add_zero, World.cell?] at this
    dsimp only at h1
    cases hh : w.heap[b]? with
    | none => rw [hh] at this; simp at this
    | some o =>
     cases o with
     | cells cs t f' => exact h1 cs t f' hh
     | _ => rw [hh] at this; simp at this
   | [], hx => simp at hx; omega⟩
theorem Sl.turned (h : Sl f sz w A c l) {d : Nat} (o : Obj) (hd : NotCells w d) (hsz : 0 < sz) : Sl f sz (w.putObj d o) A c l := by
 refine ⟨h.le, h.max, h.size, fun hn => ?_⟩
 obtain ⟨b, off, e, hbw, hc⟩ := h.cells hn
 refine ⟨b, off, e, by simpa using hbw, fun i v hv => ?_⟩
 have h1 := hc i v hv
 have hne : b ≠ d := by
  rintro rfl
  simp only [World.cell?] at h1
  cases hh : w.heap[b]? with
  | none => rw [hh] at h1; simp at h1
  | some o' =>
   cases o' with
   | cells cs t f' => exact hd cs t f' hh
   | _ => rw [hh] at h1; simp at h1
 rw [← h1]
 simp only [World.cell?, World.putObj_heap_other hne]
end

def gpost (I : Nat → (Nat → Prop) → World → Prop) (Ix : Code → (Nat → Prop) → World → Prop) (k : Nat) (O O' R : Nat → Prop) (W : World) : Exit → Act → World → Prop
 | .normal, _, W' => Kept (fun b => O' b ∨ R b) W W' ∧ I (k + 1) O' W'
 | .ret, _, W' => Kept (fun b => O' b ∨ R b) W W' ∧ Ix .ret O' W'
 | .exit id, _, W' => Kept (fun b => O' b ∨ R b) W W' ∧ Ix (.exit id) O' W'
 | .goto t, _, W' => Kept (fun b => O' b ∨ R b) W W' ∧ Ix (.goto t) O' W'
 | .panic _, _, _ => False
 | .outgrown, _, _ => False

theorem wpIn_rangeX {P : Program} {n : Nat} {g : Operand} {ps : Array Tmp} {assign body : Code} {Q : Exit → Act → World → Prop} {a : Act} {w : World}
  {gf : Nat} {lb : Array Value} (hg : a.eval g = .func (.func gf) #[] lb) (eg : ∀ args w, (callFunc gf args).run P w = .ok (.enter gf args) w)
  {N : Nat} {Y : Nat → Array Value → (Nat → Prop) → World → Prop} {ch : Option (List PanicEntry)} {O0 R : Nat → Prop} {w0 : World} (hit : IterG P gf lb N Y ch O0 R w0) (hw0 : w0.heap.size ≤ w.heap.size) (hR : ∀ b, (O0 b ∨ R b) → b < w0.heap.size ∧ w.heap[b]? = w0.heap[b]?)
  (hps : ∀ k x O W, Y k x O W → x.size = ps.size)
  (I : Nat → (Nat → Prop) → World → Prop) (Ix : Code → (Nat → Prop) → World → Prop) (hI : XStable I) (hIx : XStable Ix) (h0 : I 0 O0 w)
  (hbody : ∀ (l k : Nat) (x : Array Value) (O O' : Nat → Prop) (W : World), k < N → Y k x O W → (∀ b, O b → O' b) → (∀ b, O' b → O b ∨ NotCells W b) → I k O' W → (∀ b, O' b → (O0 b ∨ w.heap.size ≤ b) ∧ b < W.heap.size) → w.heap.size ≤ W.heap.size →
   assign.wpIn (Fence.wide.inRound l) (n - 1 - 1) P (Exit.then (fun a1 W1 => Kept (fun b => O' b ∨ R b) W W1 ∧ ∀ d o, NotCells W1 d → XStep O' O' W1 (W1.putObj d o) →
     body.wpIn (Fence.wide.inRound l) (n - 1 - 1) P (gpost I Ix k O O' R (W1.putObj d o)) a1 (W1.putObj d o)) (fun _ _ _ => False))
    { tmps := (ps.zip x).foldl (fun t (p, v) => t.setIfInBounds p v) a.tmps, defers := [] } W)
  (hdone : ∀ (O : Nat → Prop) (W : World), ch = none → I N O W → (∀ b, O b → (O0 b ∨ w.heap.size ≤ b) ∧ b < W.heap.size) → W.heap[w.heap.size]? = some (.deferred (some [])) → O w.heap.size → w.heap.size ≤ W.heap.size →
   Q .normal { a with defers := { target := .collected w.heap.size, args := #[] } :: a.defers } W)
  (hpan : ∀ (c : List PanicEntry) (O : Nat → Prop) (W : World), ch = some c → I N O W → (∀ b, O b → (O0 b ∨ w.heap.size ≤ b) ∧ b < W.heap.size) → W.heap[w.heap.size]? = some (.deferred (some [])) → O w.heap.size → w.heap.size ≤ W.heap.size →
   Q (.panic c) { a with defers := { target := .collected w.heap.size, args := #[] } :: a.defers } W)
  (hstop : ∀ (c : Code) (O : Nat → Prop) (W : World), Ix c O W → (∀ b, O b → (O0 b ∨ w.heap.size ≤ b) ∧ b < W.heap.size) → W.heap[w.heap.size]? = some (.deferred (some [])) → O w.heap.size → w.heap.size ≤ W.heap.size →
   c.wpIn Fence.wide n P Q { a with defers := { target := .collected w.heap.size, args := #[] } :: a.defers } W) :
  (Code.rangeFunc g ps assign body).wpIn Fence.wide n P Q a w := by
 refine wpIn_rangeFunc ?_
 intro fn hfn
 obtain ⟨rec, hrec⟩ : ∃ rec : LoopState → Option Code → Loop, rec = fun st pe => { state := st, pending := pe, fn, tmps := a.tmps, params := ps, assign, body, defers := w.heap.size } := ⟨_, rfl⟩
 obtain ⟨W1, hW1⟩ : ∃ W1, (w.alloc (.deferred (some []))).alloc (.loop (rec .ready none)) = W1 := ⟨_, rfl⟩
 have hS1 : W1.heap.size = w.heap.size + 2 := by rw [← hW1]; simp
 have hL1 : W1.heap[w.heap.size + 1]? = some (.loop (rec .ready none)) := by
  rw [← hW1]; have := World.alloc_heap_new (w.alloc (.deferred (some []))) (.loop (rec .ready none)); rwa [World.size_alloc] at this
 have hK1 : W1.heap[w.heap.size]? = some (.deferred (some [])) := by
  rw [← hW1]; exact (Below.heap_alloc _ _ _ (by simp)).trans (World.alloc_heap_new w _)
 have hb1 : Below w.heap.size w W1 := by
  rw [← hW1]; exact ((Below.refl _ w).alloc (Nat.le_refl _) _).alloc (by simp) _
 let E : (Nat → Prop) → Nat → Prop := fun O b => O b ∨ (b = w.heap.size ∨ b = w.heap.size + 1)
 have hO0 : ∀ b, O0 b → b < w.heap.size := fun b hb => Nat.lt_of_lt_of_le (hR b (.inl hb)).1 hw0
 have hI1 : I 0 (E O0) W1 := hI _ _ _ _ _ h0 ⟨hb1.os, hb1.tape, hb1.output, hb1.size, fun b hb _ => hb1.block b hb, fun b => by
  show (O0 b ∨ _) → _
  rw [hS1]
  rintro (h | h); exact .inl h; exact .inr (by omega)⟩
 -- a step of the iterator's is one of the caller's
 have lift : ∀ {O O' : Nat → Prop} {A B : World}, XStep O O' A B → XStep (E O) (E O') A B := fun {O O' A B} h =>
  ⟨h.os, h.tape, h.output, h.size, fun b hb hO => h.keep b hb (fun h' => hO (.inl h')), fun b => by
   show (O' b ∨ _) → ((O b ∨ _) ∨ _)
   rintro (h1 | h1)
   ·rcases h.owns b h1 with h2 | h2
    ·exact .inl (.inl h2)
    ·exact .inr h2
   ·exact .inl (.inr h1)⟩
 have putl : ∀ {O : Nat → Prop} {A : World} (o : Obj), XStep (E O) (E O) A (A.putObj (w.heap.size + 1) o) := fun o => XStep.putObj _ _ o (.inr (.inr rfl))
 have far : ∀ {O : Nat → Prop}, (∀ b, O b → O0 b ∨ w.heap.size + 2 ≤ b) → ¬ O w.heap.size ∧ ¬ O (w.heap.size + 1) := fun {O} h =>
  ⟨fun h' => by rcases h _ h' with h1 | h1; have := hO0 _ h1; omega; omega, fun h' => by rcases h _ h' with h1 | h1; have := hO0 _ h1; omega; omega⟩
 refine ⟨w.heap.size + 1, [{ target := .collected w.heap.size, args := #[] }], W1, { target := .fn (.func gf) lb, args := #[.func (.yield (w.heap.size + 1)) #[] #[]] }, W1, gf,
  #[.func (.yield (w.heap.size + 1)) #[] #[]] ++ lb, W1, ?_, ?_, ?_, ?_, fun h => by simp [Fence.wide] at h, ?_⟩
 ·rw [← hW1, hrec]; exact run_enterLoop_outer _ _ _ _ _
 ·simp only [resolve, hg]
  simp [go_sem]
 ·intro f' _; trivial
 ·simp [invoke, go_sem, eg]
 ·refine (hit (n - 1) (w.heap.size + 1)
   (fun k O W => I k (E O) W ∧ W.heap[w.heap.size + 1]? = some (.loop (rec .ready none)) ∧ W.heap[w.heap.size]? = some (.deferred (some [])) ∧ (∀ b, O b → O0 b ∨ w.heap.size + 2 ≤ b) ∧ w.heap.size + 2 ≤ W.heap.size)
   (fun _ O W => ∃ c, Ix c (E O) W ∧ W.heap[w.heap.size + 1]? = some (.loop (rec .done (some c))) ∧ W.heap[w.heap.size]? = some (.deferred (some [])) ∧ (∀ b, O b → O0 b ∨ w.heap.size + 2 ≤ b) ∧ w.heap.size + 2 ≤ W.heap.size)
   W1 (Nat.le_trans hw0 hb1.size) (fun b hb => ⟨(hR b hb).1, (hb1.block b (Nat.lt_of_lt_of_le (hR b hb).1 hw0)).trans (hR b hb).2⟩) ?_ ?_ ?_ ?_).mono ?_
  ·rintro k O O' A B ⟨hi, hl, hk, hO, hz⟩ st
   obtain ⟨f1, f2⟩ := far hO
   refine ⟨hI _ _ _ _ _ hi (lift st), (st.keep _ (by omega) f2).trans hl, (st.keep _ (by omega) f1).trans hk, fun b hb => ?_, Nat.le_trans hz st.size⟩
   rcases st.owns b hb with h | h
   ·exact hO b h
   ·exact .inr (by omega)
  ·rintro u O O' A B ⟨c, hi, hl, hk, hO, hz⟩ st
   obtain ⟨f1, f2⟩ := far hO
   refine ⟨c, hIx _ _ _ _ _ hi (lift st), (st.keep _ (by omega) f2).trans hl, (st.keep _ (by omega) f1).trans hk, fun b hb => ?_, Nat.le_trans hz st.size⟩
   rcases st.owns b hb with h | h
   ·exact hO b h
   ·exact .inr (by omega)
  ·
   rintro k x O W hx hY ⟨hi, hl, hk, hO, hz⟩ hOs hWs
   obtain ⟨f1, f2⟩ := far hO
   have hlt : w.heap.size + 1 < W.heap.size := by omega
   have hy := run_yield (P := P) (args := x) hl (by rw [hrec]; exact hps _ x _ _ hY)
   rw [hrec] at hy
   have hEO : ∀ b, E O b → (O0 b ∨ w.heap.size ≤ b) ∧ b < W.heap.size := by
    rintro b (h | h | h)
    ·have := hOs b h
     refine ⟨?_, this.2⟩
     rcases this.1 with h1 | h1
     ·exact .inl h1
     ·exact .inr (by omega)
    ·exact ⟨.inr (by omega), by omega⟩
    ·exact ⟨.inr (by omega), by omega⟩
   have hNC : ∀ b, E O b → O b ∨ NotCells W b := by
    rintro b (h | rfl | rfl)
    ·exact .inl h
    ·exact .inr fun cs t f e => by rw [hk] at e; cases e
    ·exact .inr fun cs t f e => by rw [hl] at e; cases e
   refine ⟨fn, _, assign, body, hy, roundIn_of_wpIn hfn (wpIn_mono (hbody (w.heap.size + 1) k x O (E O) W hx hY (fun b h => .inl h) hNC hi hEO (by omega)) ?_)⟩
   rintro e a1 Wa hp
   cases e with
   | normal =>
    obtain ⟨hka, hbd⟩ := hp
    have hla : Wa.heap[w.heap.size + 1]? = some (.loop (rec .ready none)) := (hka.keep _ (by omega) (.inl (.inr (.inr rfl)))).trans hl
    have hda : Wa.heap[w.heap.size]? = some (.deferred (some [])) := (hka.keep _ (by omega) (.inl (.inr (.inl rfl)))).trans hk
    have hza := hka.size
    refine ⟨_, run_beginRound hla (by rw [hrec]), ?_⟩
    have hbody2 := hbd (w.heap.size + 1) (.loop { rec .ready none with state := .busy }) (fun cs t f e => by rw [hla] at e; cases e) (putl _)
    obtain ⟨W2, hW2⟩ : ∃ W2, Wa.putObj (w.heap.size + 1) (.loop { rec .ready none with state := .busy }) = W2 := ⟨_, rfl⟩
    have st2 : XStep (E O) (E O) Wa W2 := by rw [← hW2]; exact putl _
    have hl2 : W2.heap[w.heap.size + 1]? = some (.loop { rec .ready none with state := .busy }) := by rw [← hW2]; exact World.putObj_heap_same (by omega)
    have hk2 : W2.heap[w.heap.size]? = some (.deferred (some [])) := by rw [← hW2]; exact (World.putObj_heap_other (by omega)).trans hda
    have hz2 : W2.heap.size = Wa.heap.size := by rw [← hW2]; simp
    rw [hW2] at hbody2
    rw [hW2]
    refine wpIn_mono hbody2 ?_
    -- from the record's state when the body is left to the round's end
    have fin : ∀ (jump : Option Code) (W3 : World), Kept (fun b => E O b ∨ R b) W2 W3 →
      (Instr.endRound (w.heap.size + 1) jump).run P W3 = .ok (.bool jump.isNone) (W3.putObj (w.heap.size + 1) (.loop (rec (if jump.isNone then .ready else .done) jump))) ∧
      (W3.putObj (w.heap.size + 1) (.loop (rec (if jump.isNone then .ready else .done) jump))).heap[w.heap.size + 1]? = some (.loop (rec (if jump.isNone then .ready else .done) jump)) ∧
      (W3.putObj (w.heap.size + 1) (.loop (rec (if jump.isNone then .ready else .done) jump))).heap[w.heap.size]? = some (.deferred (some [])) ∧
      Kept (fun b => O b ∨ R b) W (W3.putObj (w.heap.size + 1) (.loop (rec (if jump.isNone then .ready else .done) jump))) ∧ w.heap.size + 2 ≤ W3.heap.size := fun jump W3 hk3 => by
     have hl3 : W3.heap[w.heap.size + 1]? = some (.loop { rec .ready none with state := .busy }) := (hk3.keep _ (by omega) (.inl (.inr (.inr rfl)))).trans hl2
     have hd3 : W3.heap[w.heap.size]? = some (.deferred (some [])) := (hk3.keep _ (by omega) (.inl (.inr (.inl rfl)))).trans hk2
     have hz3 := hk3.size
     have hr := run_endRound (P := P) jump hl3
     rw [hrec] at hr ⊢
     refine ⟨hr, World.putObj_heap_same (by omega), (World.putObj_heap_other (by omega)).trans hd3, ?_, by omega⟩
     have hRl : ∀ b, O b ∨ R b → b ≠ w.heap.size + 1 := by
      rintro b (h | h) rfl
      ·exact f2 h
      ·have := (hR _ (.inr h)).1; omega
     refine ⟨hk3.os.trans (st2.os.trans hka.os), hk3.tape.trans (st2.tape.trans hka.tape), hk3.output.trans (st2.output.trans hka.output), by simp; omega, fun b hb hRb => ?_⟩
     have hne := hRl b hRb
     have hRb' : E O b ∨ R b := by rcases hRb with h | h; exact .inl (.inl h); exact .inr h
     refine (World.putObj_heap_other hne).trans ((hk3.keep b (by omega) hRb').trans ?_)
     refine Eq.trans ?_ (hka.keep b hb hRb')
     rw [← hW2]; exact World.putObj_heap_other hne
    rintro e2 a3 W3 hp
    cases e2 with
    | normal =>
     obtain ⟨hk3, hi3⟩ := hp
     obtain ⟨hr, hl4, hk4, hK, hz3⟩ := fin none W3 hk3
     exact ⟨_, _, hr, hK, .inl ⟨rfl, hI _ _ _ _ _ hi3 (putl _), hl4, hk4, hO, by simp; omega⟩⟩
    | ret =>
     obtain ⟨hk3, hi3⟩ := hp
     obtain ⟨hr, hl4, hk4, hK, hz3⟩ := fin (some .ret) W3 hk3
     exact ⟨_, _, hr, hK, .inr ⟨rfl, .ret, hIx _ _ _ _ _ hi3 (putl _), hl4, hk4, hO, by simp; omega⟩⟩
    | exit id =>
     obtain ⟨hk3, hi3⟩ := hp
     obtain ⟨hr, hl4, hk4, hK, hz3⟩ := fin (some (.exit id)) W3 hk3
     exact ⟨_, _, hr, hK, .inr ⟨rfl, .exit id, hIx _ _ _ _ _ hi3 (putl _), hl4, hk4, hO, by simp; omega⟩⟩
    | goto t =>
     obtain ⟨hk3, hi3⟩ := hp
     obtain ⟨hr, hl4, hk4, hK, hz3⟩ := fin (some (.goto t)) W3 hk3
     exact ⟨_, _, hr, hK, .inr ⟨rfl, .goto t, hIx _ _ _ _ _ hi3 (putl _), hl4, hk4, hO, by simp; omega⟩⟩
    | panic ch => exact hp.elim
    | outgrown => exact hp.elim
   | exit id => exact hp.elim
   | goto t => exact hp.elim
   | ret => exact hp.elim
   | panic ch => exact hp.elim
   | outgrown => exact hp.elim
  ·exact ⟨hI1, hL1, hK1, fun _ h => .inl h, by omega⟩
  ·
   have hEO : ∀ {O : Nat → Prop} {W2 : World}, (∀ b, O b → (O0 b ∨ W1.heap.size ≤ b) ∧ b < W2.heap.size) → W1.heap.size ≤ W2.heap.size → ∀ b, E O b → (O0 b ∨ w.heap.size ≤ b) ∧ b < W2.heap.size := by
    rintro O W2 hOs hz b (h | h | h)
    ·have := hOs b h
     refine ⟨?_, this.2⟩
     rcases this.1 with h1 | h1
     ·exact .inl h1
     ·exact .inr (by omega)
    ·exact ⟨.inr (by omega), by omega⟩
    ·exact ⟨.inr (by omega), by omega⟩
   rintro e W2 ⟨O, hOs, hz, (⟨he, hi, hl, hk, hO, hz2⟩ | ⟨⟨v, rfl⟩, c, hi, hl, hk, hO, hz2⟩)⟩
   ·cases hch : ch with
    | none =>
     rw [hch] at he
     obtain ⟨v, rfl⟩ := he
     have hEO' : ∀ b, E O b → (O0 b ∨ w.heap.size ≤ b) ∧ b < (W2.putObj (w.heap.size + 1) (.loop { rec .ready none with state := .exhausted })).heap.size := by
      simpa using hEO hOs hz
     exact ⟨none, _, by have := run_endLoop (P := P) hl (by rw [hrec]; simp); rw [hrec] at this; exact this,
      by have := hdone (E O) _ hch (hI _ _ _ _ _ hi (putl _)) hEO' ((World.putObj_heap_other (by omega)).trans hk) (.inr (.inl rfl)) (by simp; omega); rw [hrec] at this; exact this⟩
    | some c =>
     rw [hch] at he
     obtain rfl : e = .panicked c := he
     exact hpan c (E O) _ hch hi (hEO hOs hz) hk (.inr (.inl rfl)) (by omega)
   ·have hEO' : ∀ b, E O b → (O0 b ∨ w.heap.size ≤ b) ∧ b < (W2.putObj (w.heap.size + 1) (.loop { rec .done (some c) with state := .exhausted })).heap.size := by
     simpa using hEO hOs hz
    exact ⟨some c, _, by have := run_endLoop (P := P) hl (by rw [hrec]; simp); rw [hrec] at this; exact this,
     by have := hstop c (E O) _ (hIx _ _ _ _ _ hi (putl _)) hEO' ((World.putObj_heap_other (by omega)).trans hk) (.inr (.inl rfl)) (by simp; omega); rw [hrec] at this; exact this⟩
end Go.Mine
namespace Go.Mine
open Go.RowKit
section
variable {α : Type} {f : α → List Value} {sz : Nat} {e : TypeId} {O O' : Nat → Prop} {w w' : World} {base : Nat} {v : Value} {l : List α}
theorem OwnO.gstep (h : OwnO f sz e O w base v l) (s : XStep O O' w w') : OwnO f sz e O' w' base v l :=
 ⟨h.own.keep fun g hg => s.keep g (h.own.blk hg).2.1 (h.no g hg), fun g hg hO => by
  rcases s.owns g hO with h1 | h1
  ·exact h.no g hg h1
  ·have := (h.own.blk hg).2.1; omega⟩
theorem notCells_ne {d b : Nat} {cs : Array Value} {t : TypeId} {fz : Nat × Nat} (hd : NotCells w d) (hb : w.heap[b]? = some (.cells cs t fz)) : b ≠ d := by
 rintro rfl; exact hd cs t fz hb
theorem Blk.turned {b : Nat} {ty : TypeId} {cs : Array Value} (h : Blk w b ty cs) {d : Nat} (o : Obj) (hd : NotCells w d) : Blk (w.putObj d o) b ty cs :=
 ⟨by simpa using h.lt, (World.putObj_heap_other (notCells_ne hd h.at_)).trans h.at_⟩
theorem kept_alloc {R : Nat → Prop} (W : World) (o : Obj) : Kept R W (W.alloc o) := (Kept.refl R W).alloc o
structure KeptBut (X : Nat → Prop) (w w' : World) : Prop where
 os : w'.os = w.os
 tape : w'.tape = w.tape
 output : w'.output = w.output
 size : w.heap.size ≤ w'.heap.size
 keep : ∀ b, b < w.heap.size → ¬ X b → w'.heap[b]? = w.heap[b]?
theorem KeptBut.refl (X : Nat → Prop) (w : World) : KeptBut X w w := ⟨rfl, rfl, rfl, Nat.le_refl _, fun _ _ _ => rfl⟩
theorem KeptBut.trans {X : Nat → Prop} {a b c : World} (h : KeptBut X a b) (k : KeptBut X b c) : KeptBut X a c :=
 ⟨k.os.trans h.os, k.tape.trans h.tape, k.output.trans h.output, Nat.le_trans h.size k.size, fun x hx hX => (k.keep x (Nat.lt_of_lt_of_le hx h.size) hX).trans (h.keep x hx hX)⟩
theorem KeptBut.of_below {X : Nat → Prop} {a b : World} (h : Below a.heap.size a b) : KeptBut X a b := ⟨h.os, h.tape, h.output, h.size, fun x hx _ => h.block x hx⟩
theorem KeptBut.below {X : Nat → Prop} {a b c : World} (h : KeptBut X a b) (k : Below b.heap.size b c) : KeptBut X a c := h.trans (.of_below k)
theorem KeptBut.alloc {X : Nat → Prop} {a b : World} (h : KeptBut X a b) (o : Obj) : KeptBut X a (b.alloc o) := h.below ((Below.refl _ _).alloc (Nat.le_refl _) _)
theorem KeptBut.drew {X : Nat → Prop} {a b : World} (h : KeptBut X a b) : KeptBut X a b.drew := ⟨h.os, h.tape, h.output, h.size, h.keep⟩
theorem KeptBut.set {X : Nat → Prop} {a b : World} (h : KeptBut X a b) {p : Addr} (u : Value) (hp : X p.block ∨ a.heap.size ≤ p.block) : KeptBut X a (b.setCell p u) :=
 ⟨h.os, h.tape, h.output, by simpa [World.setCell] using h.size, fun x hx hX => (Below.heap_setCell _ _ _ _ (by rintro rfl; rcases hp with hp | hp; exact hX hp; omega)).trans (h.keep x hx hX)⟩
theorem KeptBut.grown {X : Nat → Prop} {a b c : World} {row : Option Nat} (h : KeptBut X a b) (hg : b.grownBy c row) (hr : ∀ g, row = some g → X g ∨ a.heap.size ≤ g) : KeptBut X a c :=
 ⟨hg.os.trans h.os, hg.tape.trans h.tape, hg.output.trans h.output, Nat.le_trans h.size hg.size, fun x hx hX => (hg.block x (Nat.lt_of_lt_of_le hx h.size) (fun e => by rcases hr x e.symm with h1 | h1; exact hX h1; omega)).trans (h.keep x hx hX)⟩
theorem KeptBut.step {X : Nat → Prop} {a b c : World} (h : KeptBut X a b) (s : XStep O O' b c) (hO : ∀ x, O x → X x ∨ a.heap.size ≤ x) : KeptBut X a c :=
 ⟨s.os.trans h.os, s.tape.trans h.tape, s.output.trans h.output, Nat.le_trans h.size s.size, fun x hx hX => (s.keep x (Nat.lt_of_lt_of_le hx h.size) (fun ho => by rcases hO x ho with h1 | h1; exact hX h1; omega)).trans (h.keep x hx hX)⟩
theorem KeptBut.put {X : Nat → Prop} {a b : World} (h : KeptBut X a b) {d : Nat} (o : Obj) (hd : X d ∨ a.heap.size ≤ d) : KeptBut X a (b.putObj d o) :=
 ⟨h.os, h.tape, h.output, by simpa using h.size, fun x hx hX => (World.putObj_heap_other (by rintro rfl; rcases hd with h1 | h1; exact hX h1; omega)).trans (h.keep x hx hX)⟩
theorem KeptBut.toBelow {X : Nat → Prop} {a b : World} (h : KeptBut X a b) {B : Nat} (hB : B ≤ a.heap.size) (hX : ∀ x, X x → B ≤ x) : Below B a b :=
 ⟨h.os, h.tape, h.output, h.size, fun x hx => h.keep x (by omega) (fun h' => by have := hX x h'; omega)⟩
theorem KeptBut.mono {X X' : Nat → Prop} {a b : World} (h : KeptBut X a b) (hX : ∀ x, X x → X' x) : KeptBut X' a b := ⟨h.os, h.tape, h.output, h.size, fun x hx h' => h.keep x hx fun hx' => h' (hX x hx')⟩
end
structure SlT {α : Type} (f : α → List Value) (sz : Nat) (ty : TypeId) (base : Nat) (O : Nat → Prop) (w : World) (A : Option Addr) (c : Nat) (l : List α) : Prop where
 so : SlO f sz O w A c l
 ty_ : ∀ a, A = some a → l ≠ [] → a.block < base ∨ ∃ cs fz, w.heap[a.block]? = some (.cells cs ty fz)
section
variable {α : Type} {f : α → List Value} {sz : Nat} {ty : TypeId} {base : Nat} {O O' : Nat → Prop} {w w' : World} {A : Option Addr} {c : Nat} {l : List α}
theorem SlT.lt (h : SlT f sz ty base O w A c l) {a : Addr} (ha : A = some a) (hn : l ≠ []) : a.block < w.heap.size := by
 obtain ⟨b, off, e, hb, _⟩ := h.so.sl.cells hn
 rw [ha] at e; cases e; exact hb
theorem SlT.step (h : SlT f sz ty base O w A c l) (s : XStep O O' w w') : SlT f sz ty base O' w' A c l :=
 ⟨h.so.step s, fun a ha hn => by rw [s.keep _ (h.lt ha hn) (h.so.no a ha hn)]; exact h.ty_ a ha hn⟩
theorem SlT.more (h : SlT f sz ty base O w A c l) (hsz : 0 < sz) (ho : ∀ b, O' b → O b ∨ NotCells w b) : SlT f sz ty base O' w A c l := ⟨h.so.more hsz ho, h.ty_⟩
theorem SlT.other (h : SlT f sz ty base O w A c l) (hz : w.heap.size ≤ w'.heap.size) (hk : ∀ b, b < w.heap.size → (b < base ∨ ∃ cs fz, w.heap[b]? = some (.cells cs ty fz)) → w'.heap[b]? = w.heap[b]?) : SlT f sz ty base O w' A c l :=
 ⟨⟨h.so.sl.keep (fun a ha hn hlt => hk _ hlt (h.ty_ a ha hn)) hz, h.so.no⟩, fun a ha hn => by rw [hk _ (h.lt ha hn) (h.ty_ a ha hn)]; exact h.ty_ a ha hn⟩
theorem SlT.bel (h : SlT f sz ty base O w A c l) (hb : Below w.heap.size w w') : SlT f sz ty base O w' A c l :=
 ⟨h.so.bel hb, fun a ha hn => by rw [hb.block _ (h.lt ha hn)]; exact h.ty_ a ha hn⟩
theorem SlT.mono (h : SlT f sz ty base O w A c l) (ho : ∀ b, O' b → O b) : SlT f sz ty base O' w A c l := ⟨h.so.mono ho, h.ty_⟩
end
theorem leaves_panic1 {F : Fence} {n : Nat} {P : Program} {fn : Func} {tmps : Array Value} {R : Ending → World → Prop} {D : Nat} {w : World} {c : List PanicEntry} (hD : w.heap[D]? = some (.deferred (some [])))
  (hR : R (.panicked c) (w.putObj D (.deferred none))) : bodyPostM F n P fn R (.panic c) { tmps, defers := [{ target := .collected D, args := #[] }] } w :=
 ⟨by simp, .inl ⟨D, _, rfl, run_takeDeferred hD, hR⟩⟩
end Go.Mine
namespace Go.Mine
def unl (N : Nat) (listed : Array Bool) : Nat := (List.range N).countP fun i => !listed.getD i true
theorem unl_succ (N : Nat) (l : Array Bool) : unl (N + 1) l = unl N l + (if l.getD N true = false then 1 else 0) := by
 unfold unl
 rw [List.range_succ, List.countP_append]
 congr 1
 cases h : l.getD N true <;> simp only [List.countP_cons, List.countP_nil, h] <;> rfl
theorem getD_setT (l : Array Bool) (i j : Nat) : (l.setIfInBounds i true).getD j true = (if i = j then true else l.getD j true) := by
 simp only [Array.getD_eq_getD_getElem?, Array.getElem?_setIfInBounds]
 by_cases h : i = j
 ·subst h
  rw [if_pos rfl, if_pos rfl]
  split <;> rfl
 ·rw [if_neg h, if_neg h]
theorem unl_le : ∀ (N : Nat) (l : Array Bool) (i : Nat), unl N (l.setIfInBounds i true) ≤ unl N l
 | 0, _, _ => Nat.le_refl _
 | N + 1, l, i => by
  rw [unl_succ, unl_succ, getD_setT]
  have := unl_le N l i
  by_cases h : i = N
  ·rw [if_pos h, if_neg (by decide)]; omega
  ·rw [if_neg h]; omega
theorem unl_set : ∀ (N : Nat) (l : Array Bool) (i : Nat), i < N → l.getD i true = false → unl N (l.setIfInBounds i true) + 1 ≤ unl N l
 | 0, _, _, h, _ => absurd h (Nat.not_lt_zero _)
 | N + 1, l, i, h, hf => by
  rw [unl_succ, unl_succ, getD_setT]
  by_cases hi : i = N
  ·subst hi
   rw [if_pos rfl, if_neg (by decide), if_pos hf]
   have := unl_le i l i
   omega
  ·rw [if_neg hi]
   have := unl_set N l i (by omega) hf
   omega
theorem unl_pos : ∀ (N : Nat) (l : Array Bool) (i : Nat), i < N → l.getD i true = false → 0 < unl N l := fun N l i h hf => by
 have := unl_set N l i h hf; omega
section
variable {F : Fence} {n : Nat} {P : Program} {md : Region.Mode} {ops : Array Oper} {Q : Exit → Act → World → Prop}
theorem wpAnyIn_inv (I : Array Bool → Act → World → Prop) (hend : ∀ listed a w, I listed a w → Region.ready md ops listed = [] → Q .normal a w)
  (hstep : ∀ listed a w i, I listed a w → i ∈ Region.ready md ops listed → wpOpIn F n P ops Q i (fun a' w' => I (listed.setIfInBounds i true) a' w') a w) :
  ∀ (fuel : Nat) (listed : Array Bool) (a : Act) (w : World), unl ops.size listed ≤ fuel → I listed a w → wpAnyIn F n P md ops Q fuel listed a w
 | 0, listed, a, w, hu, hI => by
  have : Region.ready md ops listed = [] := by
   rcases Classical.em (Region.ready md ops listed = []) with h | h
   ·exact h
   ·obtain ⟨i, hi⟩ := List.exists_mem_of_ne_nil _ h
    obtain ⟨h1, o, h2, _⟩ := mem_ready.1 hi
    have := unl_pos ops.size listed i (Array.getElem?_eq_some_iff.1 h2).1 h1
    omega
  exact ⟨this, hend _ _ _ hI this⟩
 | f + 1, listed, a, w, hu, hI => ⟨fun h => hend _ _ _ hI h, fun i hi => by
  obtain ⟨h1, o, h2, _⟩ := mem_ready.1 hi
  have := unl_set ops.size listed i (Array.getElem?_eq_some_iff.1 h2).1 h1
  exact wpOpIn_mono (fun a' w' h => wpAnyIn_inv I hend hstep f _ a' w' (by omega) h) (hstep _ _ _ _ hI hi)⟩
theorem wpIn_region_inv {id : Nat} {a : Act} {w : World} (I : Array Bool → Act → World → Prop) (hm : P.follows .mixedOrders = true) (h0 : I (Array.replicate ops.size false) a w.drew)
  (hend : ∀ listed a w, I listed a w → Region.ready .any ops listed = [] → Q .normal a w)
  (hstep : ∀ listed a w i, I listed a w → i ∈ Region.ready .any ops listed → wpOpIn F n P ops Q i (fun a' w' => I (listed.setIfInBounds i true) a' w') a w) :
  (Code.region id ops true).wpIn F n P Q a w :=
 wpIn_region_any hm (wpAnyIn_inv I hend hstep _ _ _ _ (by unfold unl; exact Nat.le_trans List.countP_le_length (by simp)) h0)
def Closed (md : Region.Mode) (ops : Array Oper) (listed : Array Bool) : Prop := ∀ (j : Nat) (o : Oper), listed.getD j false = true → ops[j]? = some o → ∀ e ∈ o.after, Region.binds md e = true → listed.getD e.on false = true
theorem getD_setF (l : Array Bool) (i j : Nat) : (l.setIfInBounds i true).getD j false = (if i = j ∧ i < l.size then true else l.getD j false) := by
 simp only [Array.getD_eq_getD_getElem?, Array.getElem?_setIfInBounds]
 by_cases h : i = j
 ·subst h
  rw [if_pos rfl]
  by_cases hl : i < l.size
  ·rw [if_pos hl, if_pos ⟨rfl, hl⟩]; rfl
  ·rw [if_neg hl, if_neg (fun h => hl h.2)]
   simp [Array.getElem?_eq_none (Nat.le_of_not_lt hl)]
 ·rw [if_neg h, if_neg (fun h' => h h'.1)]
theorem Closed.set {listed : Array Bool} (h : Closed md ops listed) {i : Nat} (hi : i ∈ Region.ready md ops listed) : Closed md ops (listed.setIfInBounds i true) := by
 obtain ⟨_, o, ho, hd⟩ := mem_ready.1 hi
 intro j o' hj ho' e he hb
 rw [getD_setF] at hj ⊢
 split
 ·rfl
 ·split at hj
  ·rename_i h1 h2
   obtain ⟨rfl, _⟩ := h2
   rw [ho] at ho'
   cases ho'
   exact hd e he hb
  ·exact h j o' hj ho' e he hb
theorem wpIn_region_inv' {id : Nat} {a : Act} {w : World} (I : Array Bool → Act → World → Prop) (hm : P.follows .mixedOrders = true) (h0 : I (Array.replicate ops.size false) a w.drew)
  (hend : ∀ listed a w, I listed a w → listed.size = ops.size → Closed .any ops listed → Region.ready .any ops listed = [] → Q .normal a w)
  (hstep : ∀ listed a w i, I listed a w → listed.size = ops.size → Closed .any ops listed → i ∈ Region.ready .any ops listed → wpOpIn F n P ops Q i (fun a' w' => I (listed.setIfInBounds i true) a' w') a w) :
  (Code.region id ops true).wpIn F n P Q a w :=
 wpIn_region_inv (fun l a w => I l a w ∧ l.size = ops.size ∧ Closed .any ops l) hm ⟨h0, by simp, fun j o hj => by
   simp only [Array.getD_eq_getD_getElem?, Array.getElem?_replicate] at hj
   split at hj <;> simp at hj⟩
  (fun l a w h hr => hend l a w h.1 h.2.1 h.2.2 hr)
  (fun l a w i h hi => wpOpIn_mono (fun a' w' h' => ⟨h', by rw [Array.size_setIfInBounds]; exact h.2.1, h.2.2.set hi⟩) (hstep l a w i h.1 h.2.1 h.2.2 hi))
def acB (ops : Array Oper) : Bool := (List.range ops.size).all fun j => match ops[j]? with
 | some o => o.after.all fun e => decide (e.on < j)
 | none => true
theorem all_listed {listed : Array Bool} (hz : listed.size = ops.size) (hac : acB ops = true) (h : Region.ready md ops listed = []) : ∀ j, j < ops.size → listed.getD j false = true := by
 intro j
 induction j using Nat.strongRecOn with
 | _ j ih =>
  intro hj
  cases hl : listed.getD j false with
  | true => rfl
  | false =>
   exfalso
   have ho : ops[j]? = some ops[j] := Array.getElem?_eq_getElem hj
   have hd : ∀ e ∈ (ops[j]).after, e.on < j := fun e he => by
    have := List.all_eq_true.1 hac j (List.mem_range.2 hj)
    simp only [ho] at this
    have := (Array.all_eq_true_iff_forall_mem.1 this) e he
    simpa using this
   have hl' : listed.getD j true = false := by
    have hjl : j < listed.size := by omega
    simp only [Array.getD_eq_getD_getElem?, Array.getElem?_eq_getElem hjl, Option.getD_some] at hl ⊢
    exact hl
   have : j ∈ Region.ready md ops listed := mem_ready.2 ⟨hl', _, ho, fun e he _ => ih e.on (hd e he) (Nat.lt_trans (hd e he) hj)⟩
   rw [h] at this
   cases this
end
end Go.Mine
namespace Go.Mine
section
variable {ro : Option Nat} {m : Nat} {P : Program} {ops : Array Oper} {md : Region.Mode}
theorem rowsIn_wideR {n : Nat} {row : String} {args : Array Value} {w : World} {R : Value → World → Prop} (h : Rows P row args w R) : RowsIn (wideR ro) n P row args w R :=
 fun c cs _ => let ⟨v, w', r, s⟩ := h c cs; ⟨v, w', r, stepsIn_wide.2 s⟩
theorem no_out (T : Act → World → Prop) : ¬ LetsOut (onlyN T) := fun ⟨_, _, h⟩ => h
theorem wpIn_of_only {o : Oper} {a : Act} {w : World} {K K' : Act → World → Prop} {T : Act → World → Prop} {Q' : Exit → Act → World → Prop} (hnd : ∀ c, o.op ≠ .defer c) (h : ∀ a w, K a w → K' a w) (hh : o.wp P a w K (onlyN T)) :
  o.wpIn (wideR ro) m P a w K' Q' := by
 refine ⟨fun f _ => trivial, ?_⟩
 rw [Oper.semAt_eq _ _ _ hnd]
 unfold Oper.wp at hh
 generalize (execOp a.eval o).run P w = r at *
 cases r with
 | ok n w' =>
  cases n <;> simp only [Oper.upon] at hh <;> simp only [Oper.uponIn]
  case value v => exact h _ _ hh
  case skip => exact h _ _ hh
  case defer d => exact h _ _ hh
  case enter f args =>
   refine ⟨fun h => (by cases h), callsIn_wideR (hh.mono fun e w'' he => ?_)⟩
   cases e with
   | returned v => exact h _ _ he
   | panicked c => exact (he : False).elim
   | outgrown => exact (no_out T he).elim
  case row row args => exact ⟨fun h => (by cases h), rowsIn_wideR (hh.mono fun v w'' he => h _ _ he)⟩
 | halt x w' =>
  cases x <;> simp only [Oper.upon] at hh
  exact (hh : False).elim
theorem wpOpIn_of_only (hnd : noDefer ops = true) {i : Nat} {a : Act} {w : World} {K K' : Act → World → Prop} {T : Act → World → Prop} {Q' : Exit → Act → World → Prop} (h : ∀ a w, K a w → K' a w) (hh : wpOp P ops (onlyN T) i K a w) : wpOpIn (wideR ro) m P ops Q' i K' a w := by
 unfold wpOp at hh
 unfold wpOpIn
 split
 ·rename_i ho; simp only [ho] at hh; exact h _ _ hh
 ·rename_i o ho
  simp only [ho] at hh
  split
  ·rename_i hw
   simp only [hw, if_true] at hh
   rcases hh with hh | ⟨_, hh⟩
   ·exact wpIn_of_only (noDefer_spec hnd ho) h hh
   ·exact (no_out T hh).elim
  ·rename_i hw; simp only [hw] at hh; exact ⟨fun f _ => trivial, h _ _ hh⟩
theorem wpAnyIn_of_only (hnd : noDefer ops = true) {T : Act → World → Prop} {Q' : Exit → Act → World → Prop} (hT : ∀ a w, T a w → Q' .normal a w) :
  ∀ (fuel : Nat) (listed : Array Bool) (a : Act) (w : World), wpAny P md ops (onlyN T) fuel listed a w → wpAnyIn (wideR ro) m P md ops Q' fuel listed a w
 | 0, _, _, _, h => ⟨h.1, hT _ _ h.2⟩
 | f + 1, _, _, _, h => ⟨fun h0 => hT _ _ (h.1 h0), fun i hi => wpOpIn_of_only hnd (fun a' w' h' => wpAnyIn_of_only hnd hT f _ a' w' h') (h.2 i hi)⟩
theorem wpIn_region_cut {id : Nat} {Q : Exit → Act → World → Prop} {a : Act} {w : World} {S : World → Prop} (T : Act → Act → World → Prop) (hm : P.follows .mixedOrders = true) (hnd : noDefer ops = true) (hS : S w.drew)
  (h : S w.drew → wpAnyH P .any ops (onlyN (T a)) S ops.size (Array.replicate ops.size false) a w.drew) (hT : ∀ a' w', T a a' w' → Q .normal a' w') : (Code.region id ops true).wpIn (wideR ro) m P Q a w :=
 wpIn_region_any hm (wpAnyIn_of_only hnd hT _ _ _ _ (wpAny_of_held _ _ _ _ (h hS)))
end
end Go.Mine
namespace Go.Mine
open Go.RowKit Go.Maps

def anyElem (v : Value) : Option (DataW Value × List MemPlace) := some (.held v, [])
def kI (k : Int) : Lit := .int .i64 k
def MapI (P : Program) (K : TypeId) (w : World) (b n : Nat) (m : Int → Option Value) : Prop :=
 ∃ D : DataW Value, w.ownsMap P K anyElem b n D ∧ ∀ k : Int, Maps.has D (kI k) = (m k).isSome ∧ ∀ z, D.atKey (kI k) (.held z) = .held ((m k).getD z)
def upd (m : Int → Option Value) (k : Int) (v : Value) : Int → Option Value := fun j => if j = k then some v else m j
theorem upd_same (m : Int → Option Value) (k : Int) (v : Value) : upd m k v k = some v := by simp [upd]
theorem upd_other (m : Int → Option Value) {k j : Int} (v : Value) (h : j ≠ k) : upd m k v j = m j := by simp [upd, h]
def I64 (k : Int) : Prop := -9223372036854775808 ≤ k ∧ k ≤ 9223372036854775807
theorem I64.wf {k : Int} (h : I64 k) : (Lit.int .i64 k).wf = true := by
 obtain ⟨h1, h2⟩ := h
 simp only [Lit.wf, Bool.and_eq_true, decide_eq_true_eq]
 exact ⟨h1, h2⟩
section
variable {P : Program} {K e t : TypeId} {w w' : World} {b n : Nat} {m : Int → Option Value}
theorem MapI.made (w : World) (P : Program) (K : TypeId) : MapI P K (w.alloc (.map #[] 0)) w.heap.size 0 (fun _ => none) :=
 ⟨.map [], World.ownsMap_made w P K anyElem, fun _ => ⟨rfl, fun _ => rfl⟩⟩
theorem MapI.lt (h : MapI P K w b n m) : b < w.heap.size := by obtain ⟨D, h, _⟩ := h; exact h.lt
theorem MapI.kept (h : MapI P K w b n m) {row : Option Nat} (hg : w.grownBy w' row) (hne : some b ≠ row) : MapI P K w' b n m := by obtain ⟨D, h, g⟩ := h; exact ⟨D, h.kept hg hne, g⟩
theorem MapI.bel (h : MapI P K w b n m) (hb : Below w.heap.size w w') : MapI P K w' b n m := h.kept (gb_below hb none) (by simp)
theorem MapI.alloc (h : MapI P K w b n m) (o : Obj) : MapI P K (w.alloc o) b n m := by obtain ⟨D, h, g⟩ := h; exact ⟨D, h.alloc o, g⟩
theorem MapI.drew (h : MapI P K w b n m) : MapI P K w.drew b n m := by obtain ⟨D, h, g⟩ := h; exact ⟨D, h.drew, g⟩
theorem MapI.heap (h : MapI P K w b n m) (e : w'.heap[b]? = w.heap[b]?) : MapI P K w' b n m := by obtain ⟨D, ⟨es, clock, hb, r⟩, g⟩ := h; exact ⟨D, ⟨es, clock, e.trans hb, r⟩, g⟩
theorem MapI.look (h : MapI P K w b n m) (hK : P.underlying K = some (.int .i64)) (ht : P.underlying t = some (.map K e)) {z : Value} (hz : (zeroValue e).run P w = .ok z w) {k : Int} (hk : I64 k) :
  (Instr.lookup t (.map (some b)) (.int .i64 k) false).run P w = .ok ((m k).getD z) w := by
 obtain ⟨D, h, g⟩ := h
 obtain ⟨v, ps, hrun, hv⟩ := h.lookup (int_keyed hK) ht hz (zd := .held z) (zp := []) rfl (keyOf_int_mk hK hk.wf)
 have e := (g k).2 z
 unfold kI at e
 rw [e] at hv
 simp only [anyElem, Option.some.injEq, Prod.mk.injEq, DataW.held.injEq] at hv
 rw [hrun, hv.1]
theorem MapI.put (h : MapI P K w b n m) (hK : P.underlying K = some (.int .i64)) (ht : P.underlying t = some (.map K e)) (hn : n < maxLen) {k : Int} (hk : I64 k) (v : Value) :
  ∃ w', (Instr.mapUpdate t (.map (some b)) (.int .i64 k) v).run P w = .ok () w' ∧ MapI P K w' b (n + 1) (upd m k v) ∧ w.grownBy w' (some b) := by
 obtain ⟨D, h, g⟩ := h
 obtain ⟨w', hrun, h', hg⟩ := h.update (int_keyed hK) ht hn (keyOf_int_mk hK hk.wf) (val := v) (d := .held v) (ps := []) rfl
 have hD : Maps.IsMap D := h.isMap
 have hkey : WideAt.IsKeyLit (kI k) := by simp [kI, WideAt.IsKeyLit]
 refine ⟨w', hrun, ⟨_, h', fun j => ?_⟩, hg⟩
 by_cases hj : j = k
 ·subst hj
  rw [upd_same]
  exact ⟨Maps.has_put_same hD hkey _, fun z => Maps.atKey_put_same hD hkey _ _⟩
 ·have hne : kI j ≠ kI k := by simp [kI, hj]
  rw [upd_other _ _ hj]
  exact ⟨(Maps.has_put_other hne _).trans (g j).1, fun z => (Maps.atKey_put_other hne _ _).trans ((g j).2 z)⟩
end
theorem wpList_put {P : Program} {w : World} {ops : Array Oper} {rest : List Oper} {o : Oper} {a : Act} {Q : Exit → Act → World → Prop}
  (hg : o.guard = none) (mo x v : Operand) (t : TypeId) (hop : o.op = Op.mapUpdate t mo x v) {K e : TypeId} (hK : P.underlying K = some (.int .i64)) (ht : P.underlying t = some (.map K e))
  {b n : Nat} {m : Int → Option Value} (hm : a.eval mo = .map (some b)) (h : MapI P K w b n m) (hn : n < maxLen) {k : Int} {val : Value} (hx : a.eval x = .int .i64 k) (hk : I64 k) (hv : a.eval v = val)
  (hK2 : ∀ w', MapI P K w' b (n + 1) (upd m k val) → w.grownBy w' (some b) → wpList P ops Q rest (a.put o.dst undef) w') :
  wpList P ops Q (o :: rest) a w := by
 refine wpList_plain hg fun K' hK' => ?_
 obtain ⟨w', hrun, r1, r2⟩ := h.put hK ht hn hk val
 unfold Oper.wp
 simp [execOp, hop, hm, hx, hv, hrun, Result.andThen]
 exact hK' _ _ (hK2 w' r1 r2)
end Go.Mine
namespace Go.Mine
open Go.RowKit Go.Maps
def setM (s : List Int) : Int → Option Value := fun k => if k ∈ s then some (.bool true) else none
theorem setM_add (s : List Int) (x : Int) : upd (setM s) x (.bool true) = setM (s ++ [x]) := by
 funext j
 unfold upd setM
 by_cases h : j = x
 ·subst h; simp
 ·simp [h]
theorem setM_nil : setM [] = fun _ => none := by funext j; simp [setM]
theorem setM_some (s : List Int) (k : Int) : (setM s k).isSome = true ↔ k ∈ s := by unfold setM; split <;> simp_all
theorem setM_get (s : List Int) (k : Int) : (setM s k).getD (.bool false) = .bool (s.contains k) := by
 unfold setM
 by_cases h : k ∈ s
 ·rw [if_pos h]; simp [h]
 ·rw [if_neg h]; simp [h]
theorem map_apart {P : Program} {K : TypeId} {w : World} {b n : Nat} {m : Int → Option Value} (h : MapI P K w b n m) {p : Addr} {v : Value} (hc : w.cell? p = some v) : p.block ≠ b := by
 rintro rfl
 obtain ⟨D, ⟨es, clock, hb, _⟩, _⟩ := h
 simp [World.cell?, hb] at hc
structure KeyG (P : Program) (K : TypeId) {α : Type} (enc : α → Value) (lit : α → Lit) (ok : α → Prop) : Prop where
 law : Keyed P K
 of : ∀ {a}, ok a → keyOf P K (enc a) = some (lit a)
 inj : ∀ {a b}, ok a → ok b → lit a = lit b → a = b
def MapG (P : Program) (K : TypeId) {α : Type} (lit : α → Lit) (ok : α → Prop) (w : World) (b n : Nat) (m : α → Option Value) (cnt : Nat) : Prop :=
 ∃ D : DataW Value, w.ownsMap P K anyElem b n D ∧ (∀ k, ok k → Maps.has D (lit k) = (m k).isSome ∧ ∀ z, D.atKey (lit k) (.held z) = .held ((m k).getD z)) ∧ Maps.size D = cnt
section
variable {P : Program} {K e t : TypeId} {α : Type} {enc : α → Value} {lit : α → Lit} {ok : α → Prop} {w w' : World} {b n : Nat} {m : α → Option Value} {cnt : Nat}
def updG [DecidableEq α] (m : α → Option Value) (k : α) (v : Value) : α → Option Value := fun j => if j = k then some v else m j
theorem MapG.made (w : World) (P : Program) (K : TypeId) (lit : α → Lit) (ok : α → Prop) : MapG P K lit ok (w.alloc (.map #[] 0)) w.heap.size 0 (fun _ => none) 0 :=
 ⟨.map [], World.ownsMap_made w P K anyElem, fun _ _ => ⟨rfl, fun _ => rfl⟩, rfl⟩
theorem MapG.lt (h : MapG P K lit ok w b n m cnt) : b < w.heap.size := by obtain ⟨D, h, _⟩ := h; exact h.lt
theorem MapG.kept (h : MapG P K lit ok w b n m cnt) {row : Option Nat} (hg : w.grownBy w' row) (hne : some b ≠ row) : MapG P K lit ok w' b n m cnt := by obtain ⟨D, h, g⟩ := h; exact ⟨D, h.kept hg hne, g⟩
theorem MapG.bel (h : MapG P K lit ok w b n m cnt) (hb : Below w.heap.size w w') : MapG P K lit ok w' b n m cnt := h.kept (gb_below hb none) (by simp)
theorem MapG.alloc (h : MapG P K lit ok w b n m cnt) (o : Obj) : MapG P K lit ok (w.alloc o) b n m cnt := by obtain ⟨D, h, g⟩ := h; exact ⟨D, h.alloc o, g⟩
theorem MapG.setCell (h : MapG P K lit ok w b n m cnt) {a : Addr} (ha : b ≠ a.block) (u : Value) : MapG P K lit ok (w.setCell a u) b n m cnt := by obtain ⟨D, h, g⟩ := h; exact ⟨D, h.setCell ha u, g⟩
theorem MapG.heap (h : MapG P K lit ok w b n m cnt) (e : w'.heap[b]? = w.heap[b]?) : MapG P K lit ok w' b n m cnt := by obtain ⟨D, ⟨es, clock, hb, r⟩, g⟩ := h; exact ⟨D, ⟨es, clock, e.trans hb, r⟩, g⟩
theorem MapG.notcells (h : MapG P K lit ok w b n m cnt) {p : Nat} {ty : TypeId} {cs : Array Value} (hp : Blk w p ty cs) : p ≠ b := by
 rintro rfl
 obtain ⟨D, ⟨es, clock, hb, _⟩, _⟩ := h
 rw [hp.at_] at hb; cases hb
theorem MapG.look (h : MapG P K lit ok w b n m cnt) (G : KeyG P K enc lit ok) (ht : P.underlying t = some (.map K e)) {z : Value} (hz : (zeroValue e).run P w = .ok z w) {k : α} (hk : ok k) :
  (Instr.lookup t (.map (some b)) (enc k) false).run P w = .ok ((m k).getD z) w := by
 obtain ⟨D, h, g, _⟩ := h
 obtain ⟨v, ps, hrun, hv⟩ := h.lookup G.law ht hz (zd := .held z) (zp := []) rfl (G.of hk)
 rw [(g k hk).2 z] at hv
 simp only [anyElem, Option.some.injEq, Prod.mk.injEq, DataW.held.injEq] at hv
 rw [hrun, hv.1]
theorem MapG.look_ok (h : MapG P K lit ok w b n m cnt) (G : KeyG P K enc lit ok) (ht : P.underlying t = some (.map K e)) {z : Value} (hz : (zeroValue e).run P w = .ok z w) {k : α} (hk : ok k) :
  (Instr.lookup t (.map (some b)) (enc k) true).run P w = .ok (.tuple #[(m k).getD z, .bool (m k).isSome]) w := by
 obtain ⟨D, h, g, _⟩ := h
 obtain ⟨v, ps, hrun, hv⟩ := h.look_ok G.law ht hz (zd := .held z) (zp := []) rfl (G.of hk)
 rw [(g k hk).2 z] at hv
 simp only [anyElem, Option.some.injEq, Prod.mk.injEq, DataW.held.injEq] at hv
 rw [hrun, hv.1, (g k hk).1]
theorem MapG.put [DecidableEq α] (h : MapG P K lit ok w b n m cnt) (G : KeyG P K enc lit ok) (ht : P.underlying t = some (.map K e)) (hn : n < maxLen) {k : α} (hk : ok k) (v : Value) :
  ∃ w', (Instr.mapUpdate t (.map (some b)) (enc k) v).run P w = .ok () w' ∧ MapG P K lit ok w' b (n + 1) (updG m k v) (if (m k).isSome = true then cnt else cnt + 1) ∧ w.grownBy w' (some b) := by
 obtain ⟨D, h, g, gs⟩ := h
 obtain ⟨w', hrun, h', hg⟩ := h.update G.law ht hn (G.of hk) (val := v) (d := .held v) (ps := []) rfl
 have hD : Maps.IsMap D := h.isMap
 have hkey : WideAt.IsKeyLit (lit k) := G.law.key (G.of hk)
 refine ⟨w', hrun, ⟨_, h', fun j hj => ?_, ?_⟩, hg⟩
 ·by_cases hjk : j = k
  ·subst hjk
   rw [show updG m j v j = some v by simp [updG]]
   exact ⟨Maps.has_put_same hD hkey _, fun z => Maps.atKey_put_same hD hkey _ _⟩
  ·have hne : lit j ≠ lit k := fun e => hjk (G.inj hj hk e)
   rw [show updG m k v j = m j by simp [updG, hjk]]
   exact ⟨(Maps.has_put_other hne _).trans (g j hj).1, fun z => (Maps.atKey_put_other hne _ _).trans ((g j hj).2 z)⟩
 ·rw [Maps.size_put (h.tidy G.law), (g k hk).1, gs]
theorem MapG.len (h : MapG P K lit ok w b n m cnt) (ht : P.underlying t = some (.map K e)) (ty : TypeId) : (Builtin.len_ #[t] ty #[.map (some b)]).run P w = .ok (.int .i64 cnt) w := by
 obtain ⟨D, h, _, rfl⟩ := h
 exact h.len ht ty
theorem MapG.none_ (h : MapG P K lit ok w b n m cnt) (law : Keyed P K) (hk : ∀ key kl, keyOf P K key = some kl → ∃ a, ok a ∧ kl = lit a) : cnt = 0 ↔ ∀ a, ok a → m a = none := by
 obtain ⟨D, h, g, rfl⟩ := h
 obtain ⟨es', hD', hko⟩ := h.keysOf
 subst hD'
 rw [Maps.size_eq]
 constructor
 ·intro h0 a ha
  have : es' = [] := List.length_eq_zero_iff.1 h0
  subst this
  have := (g a ha).1
  simp only [Maps.has_eq, List.any_nil] at this
  cases hm : m a with
  | none => rfl
  | some v => rw [hm] at this; cases this
 ·intro hn
  rcases es' with _ | ⟨p, r⟩
  ·rfl
  ·obtain ⟨v, hv⟩ := hko p (by simp)
   obtain ⟨a, ha, hp⟩ := hk v p.1 hv
   have h1 := (g a ha).1
   rw [hn a ha, Maps.has_eq, List.any_cons, ← hp, WideAt.sameKey_self (law.key hv)] at h1
   cases h1
end
end Go.Mine

/-
 chart.rules: what is known under way.
-/
import Derived.Test.YtkfdafeonhnloaaGreatDoorGM18
import Derived.Test.YtkfdafeonhnloaaGreatDoorGM2
namespace Go.Mine.C
open Go.RowKit Go.Mine
structure Boxes85 (b cb q : Nat) (cat f u : Int) (W : World) : Prop where
 c : Blk W b 99 #[.pointer (some ⟨cb, 0, none⟩)]
 g : Blk W (b + 1) 103 #[.int .i64 cat, .int .i64 f, .int .i64 u]
 q_ : Blk W (b + 1 + 1) 169 #[.pointer (some ⟨q, 0, none⟩)]
theorem Boxes85.bel {b cb q : Nat} {cat f u : Int} {W W' : World} (h : Boxes85 b cb q cat f u W) (hb : Below W.heap.size W W') : Boxes85 b cb q cat f u W' := ⟨h.c.bel hb, h.g.bel hb, h.q_.bel hb⟩
theorem Boxes85.keep {b cb q : Nat} {cat f u : Int} {W W' : World} (h : Boxes85 b cb q cat f u W) (hk : ∀ x, b ≤ x ∧ x < b + 3 → W'.heap[x]? = W.heap[x]?) : Boxes85 b cb q cat f u W' := ⟨Blk.heap h.c (hk _ (by omega)), Blk.heap h.g (hk _ (by omega)), Blk.heap h.q_ (hk _ (by omega))⟩
def Rl85 (mk q : Nat) (G : List Goal) (F : Int → Int → Int → Found) (M : Goal → Nat) (z : Goal) (X : Nat → Prop) (m0 : Goal → Option Value) (W : World) (x : Found) : Prop :=
 ∃ (h : TreeH) (m : Goal → Option Value), Blk W q 98 (foundA x h) ∧ FoundR X W x h ∧ ChartSt X G F mk W m ∧ ∀ k, M z ≤ M k → m k = m0 k
theorem Rl85.move {mk q : Nat} {G : List Goal} {F : Int → Int → Int → Found} {M : Goal → Nat} {z : Goal} {X X' : Nat → Prop} {m0 : Goal → Option Value} {W W' : World} {x : Found} (h : Rl85 mk q G F M z X m0 W x) (hk : KeepT X W W') (hq : W'.heap[q]? = W.heap[q]?) (hm : W'.heap[mk]? = W.heap[mk]?) (hx : ∀ b, X' b → X b ∨ W.heap.size ≤ b) : Rl85 mk q G F M z X' m0 W' x := by
 obtain ⟨h1, m1, e1, e2, e3, e4⟩ := h
 exact ⟨h1, m1, Blk.heap e1 hq, e2.move hk hx, e3.move hm hk hx, e4⟩
def ruleA (r : RuleH) : Array Value := #[.string r.cat, .int .i64 r.catNo, .slice r.pA r.parts.length r.pC, .slice r.gA r.gives.length r.gC, .int .i64 r.cost]
structure Rng85 (mk q cb b0 : Nat) (G : List Goal) (F : Int → Int → Int → Found) (M : Goal → Nat) (cat f u : Int) (X : Nat → Prop) (m0 : Goal → Option Value) (w : World) (ds : List Nat) (k : Nat) (r : RuleH) (x : Found) (O : Nat → Prop) (W : World) : Prop where
 own : ∀ b, O b → b0 + 2 ≤ b
 size : b0 + 2 ≤ W.heap.size
 rl : Rl85 mk q G F M (cat, f, u) (fun b => X b ∨ O b) m0 W x
 kb : KeptBut (fun b => b = mk ∨ b = q) w W
 bx : Boxes85 w.heap.size cb q cat f u W
 marks : Marks (w.heap.size + 3) W ds
 ib : Blk W b0 3 #[.int .i64 k]
 rb : Blk W (b0 + 1) 111 (ruleA r)
structure Low85 (mk q b0 : Nat) (w : World) (ds : List Nat) : Prop where
 b : w.heap.size + 3 ≤ b0
 mk_ : mk < w.heap.size
 q_ : q < w.heap.size
 d : ∀ d ∈ ds, d < b0
theorem Rng85.step {mk q cb b0 : Nat} {G : List Goal} {F : Int → Int → Int → Found} {M : Goal → Nat} {cat f u : Int} {X : Nat → Prop} {m0 : Goal → Option Value} {w : World} {ds : List Nat} {k : Nat} {r : RuleH} {x : Found} {O O' : Nat → Prop} {W W' : World} (l : Low85 mk q b0 w ds) (h : Rng85 mk q cb b0 G F M cat f u X m0 w ds k r x O W) (s : XStep O O' W W') : Rng85 mk q cb b0 G F M cat f u X m0 w ds k r x O' W' := by
 have hz := h.size
 have hlb := l.b
 have hlow : ∀ b, b < b0 + 2 → W'.heap[b]? = W.heap[b]? := fun b hb => s.keep b (by omega) fun hO => by have := h.own b hO; omega
 refine ⟨fun b hb => ?_, Nat.le_trans h.size s.size, ?_, h.kb.step s (fun x hx => .inr (by have := h.own x hx; omega)), h.bx.keep fun x hx => hlow x (by omega), h.marks.keep fun r hr => hlow r (by have := l.d r hr; omega), Blk.heap h.ib (hlow _ (by omega)), Blk.heap h.rb (hlow _ (by omega))⟩
 ·rcases s.owns b hb with h1 | h1
  ·exact h.own b h1
  ·omega
 ·refine h.rl.move (KeepT.step s fun b hb => .inr hb) (hlow q (by have := l.q_; omega)) (hlow mk (by have := l.mk_; omega)) (fun b hb => ?_)
  rcases hb with hb | hb
  ·exact .inl (.inl hb)
  ·rcases s.owns b hb with h1 | h1
   ·exact .inl (.inr h1)
   ·exact .inr h1.1
def Pt85 (mk kb q : Nat) (G : List Goal) (F : Int → Int → Int → Found) (M : Goal → Nat) (z : Goal) (Y : Nat → Prop) (m0 : Goal → Option Value) (x : Found) (has : Int → Str → Bool) (parts : List PartM) (ends : List Int) (f u rc : Int) (W6 : World) (pi kk : Nat) (at_ cost many : Int) (wp : World) : Prop :=
 ∃ (ks : List Tree) (kids : List TreeH) (v : Value),
  (kidsGo F parts ends f rc 1 [] = kidsGo F (parts.drop pi) (ends.drop kk) at_ cost many ks ∧ ends.drop kk ∈ laysL has (parts.drop pi) at_ u ∧ f + (pi : Int) ≤ at_ ∧ kk ≤ ends.length) ∧
  Blk wp kb 50 #[v] ∧ OwnL treeC 5 52 wp W6.heap.size v kids ∧ (kids.length = ks.length ∧ ks.length ≤ pi) ∧
  (∀ (j : Nat) (h : TreeH) (t : Tree), kids[j]? = some h → ks[j]? = some t → TreeR (fun b => Y b ∨ v.ownBlock = some b) wp h t) ∧
  Rl85 mk q G F M z (fun b => Y b ∨ v.ownBlock = some b) m0 wp x ∧ KeptBut (fun b => b = mk ∨ b = kb) W6 wp
theorem fin85 {mk q cb b0 eB start kb k : Nat} {G : List Goal} {F : Int → Int → Int → Found} {M : Goal → Nat} {cat f u : Int} {X : Nat → Prop} {m0 : Goal → Option Value} {w : World} {ds : List Nat} {r : RuleH} {x x' : Found} {O' : Nat → Prop} {W5 wp : World} (l : Low85 mk q b0 w ds)
  (h : Rng85 mk q cb b0 G F M cat f u X m0 w ds k r x O' W5) (hO : ∀ b, O' b → (b = eB ∨ start ≤ b) ∧ b < W5.heap.size) (heB : b0 + 2 ≤ eB) (hst : b0 + 2 ≤ start) (hkb : W5.heap.size ≤ kb) (hk : KeptBut (fun b => b = mk ∨ b = q ∨ b = kb) W5 wp)
  (hrl : Rl85 mk q G F M (cat, f, u) (fun b => X b ∨ O' b) m0 wp x') : Kept (fun b => O' b ∨ (b < start ∧ b ≠ eB ∧ b ≠ mk ∧ b ≠ q)) W5 wp ∧ Rng85 mk q cb b0 G F M cat f u X m0 w ds k r x' O' wp := by
 have hlb := l.b
 have hlm := l.mk_
 have hlq := l.q_
 have hz := h.size
 have low : ∀ b, b < b0 + 2 → b ≠ mk → b ≠ q → wp.heap[b]? = W5.heap[b]? := fun b hb h1 h2 => hk.keep b (by omega) fun h => by rcases h with h | h | h; exact h1 h; exact h2 h; omega
 refine ⟨⟨hk.os, hk.tape, hk.output, hk.size, fun b hb hor => hk.keep b hb fun h => ?_⟩, ⟨h.own, Nat.le_trans hz hk.size, hrl, ?_, h.bx.keep fun x hx => low x (by omega) (by omega) (by omega), h.marks.keep fun r hr => low r (by have := l.d r hr; omega) (by have := h.marks.low r hr; omega) (by have := h.marks.low r hr; omega), Blk.heap h.ib (low _ (by omega) (by omega) (by omega)), Blk.heap h.rb (low _ (by omega) (by omega) (by omega))⟩⟩
 ·rcases hor with h1 | h1
  ·have := (hO b h1).1; omega
  ·omega
 ·exact ⟨hk.os.trans h.kb.os, hk.tape.trans h.kb.tape, hk.output.trans h.kb.output, Nat.le_trans h.kb.size hk.size, fun b hb hn => (hk.keep b (Nat.lt_of_lt_of_le hb h.kb.size) fun h' => by rcases h' with h' | h' | h'; exact hn (.inl h'); exact hn (.inr h'); have := h.kb.size; omega).trans (h.kb.keep b hb hn)⟩
end Go.Mine.C

/-
  Layer 24: the sanity examples hold.
-/
import Derived.Test.YtbfgbkblblnbhaaHSame2
namespace Go.Proofs.Ytbfgbkblblnbhaa
open Go.RowKit Go.Shelf Go.Mine Go.Mine.H

theorem Sl.lit {α : Type} (f : α → List Value) (sz : Nat) (w : World) (e : TypeId) (l : List α) (cs : Array Value) (n : Nat) (hs : ∀ x ∈ l, (f x).length = sz) (hc : cs.toList = l.flatMap f) (hn : l.length = n) (hm : n ≤ 1000) :
    Sl f sz (w.alloc (.cells cs e)) (some ⟨w.heap.size, 0, none⟩) n l :=
  ⟨by omega, by omega, hs, fun _ => ⟨w.heap.size, 0, rfl, by simp, fun i v hv => by
    rw [World.cell?, heap_new]; rw [← hc] at hv; simpa using hv⟩⟩
theorem bstep {B : Nat} {A W W' : World} (h : Below B A W) (hB : B ≤ W.heap.size) (h2 : Below W.heap.size W W') : Below B A W' := h.trans (h2.mono hB)

def SpR (w w' : World) (l : List (Int × Int)) (er : Int) (e : Ending) : Prop := ∃ A2 c2, e = .returned (.tuple #[.slice A2 l.length c2, .int .i64 er]) ∧ Sl bc 2 w' A2 c2 l ∧ Below w.heap.size w w'

theorem spans_lit (A : Option Addr) (c : Nat) (l : List Beat) (n q : Int) (w : World) (hS : Sl bc 2 w A c l) (r : List (Int × Int)) (er : Int) (h1 : spansL l n q = r) (h2 : spansE l n q = er) (k : Nat) (hk : l.length = k) :
    Calls Try.prog 21 #[.slice A k c, .int .i64 n, .int .i64 q] w fun e w' => SpR w w' r er e := by
  subst hk; subst h1; subst h2; exact Spans_any A c l n q w hS
def VoR (w w' : World) (l : List Bool) (er : Int) (e : Ending) : Prop := ∃ A2 c2, e = .returned (.tuple #[.slice A2 l.length c2, .int .i64 er]) ∧ Sl bb 1 w' A2 c2 l ∧ Below w.heap.size w w'
theorem voters_lit (A : Option Addr) (c : Nat) (l : List Beat) (m q t : Int) (w : World) (hS : Sl bc 2 w A c l) (r : List Bool) (er : Int) (h1 : votersL l m q t = r) (h2 : votersE l m q t = er) (k : Nat) (hk : l.length = k) :
    Calls Try.prog 23 #[.slice A k c, .int .i64 m, .int .i64 q, .int .i64 t] w fun e w' => VoR w w' r er e := by
  subst hk; subst h1; subst h2; exact Voters_any A c l m q t w hS
theorem heard_lit (A : Option Addr) (c : Nat) (l : List Beat) (n q t : Int) (w : World) (hS : Sl bc 2 w A c l) (r : Bool) (er : Int) (h1 : heardR l n q t = (r, er)) (k : Nat) (hk : l.length = k) :
    Calls Try.prog 17 #[.slice A k c, .int .i64 n, .int .i64 q, .int .i64 t] w fun e w' => e = .returned (.tuple #[.bool r, .int .i64 er]) ∧ Below w.heap.size w w' := by
  subst hk; have := Heard_any A c l n q t w hS; rw [heardV, h1] at this; exact this
theorem check_lit (A : Option Addr) (c : Nat) (l : List Beat) (w : World) (hS : Sl bc 2 w A c l) (er : Int) (h1 : chk l = er) (k : Nat) (hk : l.length = k) :
    Calls Try.prog 19 #[.slice A k c] w fun e w' => e = .returned (.int .i64 er) ∧ Below w.heap.size w w' := by
  subst hk; subst h1; exact check_any A c l w hS
theorem same_lit (A B : Option Addr) (c d : Nat) (la lb : List (Int × Int)) (w : World) (hA : Sl bc 2 w A c la) (hB : Sl bc 2 w B d lb) (h : la = lb) (k j : Nat) (hk : la.length = k) (hj : lb.length = j) :
    Calls Try.prog 25 #[.slice A k c, .slice B j d] w fun e w' => e = .returned (.bool true) ∧ Below w.heap.size w w' := by
  subst hk; subst hj; have := sameSpans_any A B c d la lb w hA hB; rw [decide_eq_true h] at this; exact this
theorem sameB_lit (A B : Option Addr) (c d : Nat) (la lb : List Bool) (w : World) (hA : Sl bb 1 w A c la) (hB : Sl bb 1 w B d lb) (h : la = lb) (k j : Nat) (hk : la.length = k) (hj : lb.length = j) :
    Calls Try.prog 26 #[.slice A k c, .slice B j d] w fun e w' => e = .returned (.bool true) ∧ Below w.heap.size w w' := by
  subst hk; subst hj; have := sameBools_any A B c d la lb w hA hB; rw [decide_eq_true h] at this; exact this

theorem is_any (t : Int) (want : Bool) (w : World) (h : heardR [(3, 10)] 3 5 t = (want, 0)) :
    Calls Try.prog 46 #[.int .i64 t, .bool want] w fun e w' => e = .returned (.bool true) ∧ Below w.heap.size w w' := by
  have K := hide (fun A c w (hS : Sl bc 2 w A c [(3, 10)]) => heard_lit A c [(3, 10)] 3 5 t w hS want 0 h 1 rfl)
  clear h
  cases want
  all_goals
    go_enter Try.func46, Try.ntmps46
    go_wp2_with (go_at_call 17; refine (K.out _ _ _ (Sl.lit bc 2 w 41 [(3, 10)] _ 1 (fun _ _ => rfl) rfl rfl (by decide))).mono ?_; rintro e w1 ⟨rfl, hb1⟩)
    go_ret
    exact ⟨rfl, bstep ((Below.refl _ _).alloc (Nat.le_refl _) _) (by simp) hb1⟩
end Go.Proofs.Ytbfgbkblblnbhaa
